/- Texts of the claim, merged: rules, contracts and plain laws. No condition. -/
import Derived.Test.YtpkehednooilhaaGreatZda
import Derived.Sort.Row
import Derived.Sort.Grow
import Derived.ProofKit
import Derived.ChangeArms
import Derived.Deep.Slices
import Derived.Below
import Derived.SizedLaws
import Derived.ShutString
import Derived.ChangeMaps
import Derived.Test.YtpkehednooilhaaGreatZdEqS
import Derived.Test.YtpkehednooilhaaGreatZdEqI
import Derived.Test.YtpkehednooilhaaGreatZdEqT
set_option linter.unusedVariables false
set_option linter.unusedSimpArgs false
set_option linter.unusedSectionVars false
set_option maxRecDepth 20000
set_option maxHeartbeats 2000000
namespace Go.Proofs.YtpkehednooilhaaGreat.Abs
open Go.RowKit
abbrev Tab := List (FuncId × Spec)
def look : Tab → FuncId → Spec
 | [], _ => fun _ _ _ => False
 | (g, s) :: r, f => match Nat.beq f g with
  | true => s
  | false => look r f
theorem via {t : Tab} {f : FuncId} {s : Spec} {args : List Value} {m : Mem} {K : Value → Mem → Prop} (h : look t f = s) (hs : s args m K) : look t f args m K := h ▸ hs
def AllMeets (P : Program) (t : Tab) : Prop := ∀ f, Meets P f (look t f)
theorem allMeets_nil (P : Program) : AllMeets P [] := fun _ _ _ _ h => h.elim
theorem AllMeets.cons {P : Program} {t : Tab} (h : AllMeets P t) {f : FuncId} {s : Spec} (hs : Meets P f s) : AllMeets P ((f, s) :: t) := by
 intro g
 unfold look
 cases e : Nat.beq g f with
 | true => rw [Nat.eq_of_beq_eq_true e]; exact hs
 | false => exact h g
theorem AllMeets.add {P : Program} {t : Tab} (h : AllMeets P t) (hm : P.follows .mixedOrders = true) {f : FuncId} {s : Spec} (kp : Option Nat → List Nat) {fn : Func} (hf : P.funcs[f]? = some fn) (hn : (fn.name == "runtime.NumGoroutine") = false)
  (hs : ∀ args m Q, s args m Q → FA P (look t) kp fn args m Q) : AllMeets P ((f, s) :: t) :=
 h.cons (meets_of hm h kp hf hn hs)
theorem newA_intro {m : Mem} {o : Obj} {K : Nat → Mem → Prop} (h : ∀ g m', m g = none → m' = m.upd g o → m' g = some o → Mem.le m m' → K g m') : newA m o K :=
 fun g hg => h g _ hg rfl (upd_same m g o) (le_upd hg)
theorem cO {m : Mem} {g : Nat} {c : Array Value} {t : TypeId} {fr : Nat × Nat} (h : m g = some (.cells c t fr)) (k : Nat) : m.cell? ⟨g, k, none⟩ = c[k]? := by
 unfold Mem.cell?
 rw [h]
 rfl
theorem cell_le {m m' : Mem} (h : Mem.le m m') {a : Addr} {v : Value} (e : m.cell? a = some v) : m'.cell? a = some v := by
 unfold Mem.cell? at *
 cases hb : m a.block with
 | none => rw [hb] at e; cases e
 | some o => rw [hb] at e; rw [h _ _ hb]; exact e
theorem held {m : Mem} {a : Addr} {v : Value} (e : m.cell? a = some v) : ∀ q : Mem, Mem.le m q → q.cell? a = some v := fun _ h => cell_le h e
theorem ret_intro {Q : Value → Mem → Prop} {v : Value} {m m1 : Mem} (h : Mem.le m1 m) (hq : Q v m1) : ret Q v m := ⟨m1, h, hq⟩
theorem add_add (a : Addr) (x y : Nat) : (a.add x).add y = a.add (x + y) := by
 unfold Addr.add
 by_cases hy : y = 0
 ·subst hy; simp
 ·by_cases hx : x = 0
  ·subst hx; simp [hy]
  ·simp [hx, hy, Nat.add_assoc]
theorem ne_of_none {m : Mem} {g b : Nat} {o : Obj} (hg : m g = none) (hb : m b = some o) : b ≠ g := by
 rintro rfl
 rw [hg] at hb
 cases hb
theorem sto {m : Mem} {g k : Nat} {c : Array Value} {t : TypeId} {vs : List Value} {K : Mem → Prop} (h : m g = some (.cells c t (0, 0))) (h1 : vs.all one = true) (hk : k + vs.length ≤ c.size)
  (hK : ∀ m', m' = m.upd g (.cells (setAll c k vs) t (0, 0)) → m' g = some (.cells (setAll c k vs) t (0, 0)) → (∀ b, b ≠ g → m' b = m b) → K m') : stoA m ⟨g, k, none⟩ vs K := by
 unfold stoA
 cases vs with
 | nil =>
  refine hK m ?_ h (fun _ _ => rfl)
  funext x
  unfold Mem.upd setAll
  by_cases hx : x = g
  ·rw [if_pos hx, hx, h]
  ·rw [if_neg hx]
 | cons v r => exact ⟨h1, c, t, h, rfl, hk, hK _ rfl (upd_same _ _ _) (fun b hb => upd_ne hb)⟩
def flat {α : Type} (e : α → List Value) (l : List α) : List Value := l.flatMap e
class Enc (α : Type) where
 e : α → List Value
 s : Nat
 len : ∀ x, (e x).length = s
 one : ∀ x, (e x).all one = true
def Rd {α : Type} [Enc α] (m : Mem) (a : Option Addr) (l : List α) : Prop :=
 match a with
 | some ad => ∀ (i : Nat) (x : α), l[i]? = some x → ∀ (j : Nat) (v : Value), (Enc.e x)[j]? = some v → m.cell? (ad.add (i * Enc.s α + j)) = some v
 | none => l = []
theorem Rd.le {α : Type} [Enc α] {m m' : Mem} {a : Option Addr} {l : List α} (h : Rd m a l) (hl : Mem.le m m') : Rd m' a l := by
 cases a with
 | none => exact h
 | some ad => exact fun i x hx j v hv => cell_le hl (h i x hx j v hv)
theorem flat_len {α : Type} [Enc α] (l : List α) : (flat Enc.e l).length = l.length * Enc.s α := by
 unfold flat
 induction l with
 | nil => simp
 | cons x l ih => simp only [List.flatMap_cons, List.length_append, ih, Enc.len, List.length_cons, Nat.add_mul, Nat.one_mul, Nat.add_comm]
theorem flat_get {α : Type} [Enc α] : ∀ (l : List α) (i : Nat) (x : α), l[i]? = some x → ∀ (j : Nat) (v : Value), (Enc.e x)[j]? = some v → (flat Enc.e l)[i * Enc.s α + j]? = some v
 | [], i, x, h, _, _, _ => by simp at h
 | y :: l, 0, x, h, j, v, hv => by
  simp at h
  subst h
  unfold flat
  have hj : j < (Enc.e y).length := (List.getElem?_eq_some_iff.1 hv).1
  simp only [List.flatMap_cons, Nat.zero_mul, Nat.zero_add]
  rw [List.getElem?_append_left hj]
  exact hv
 | y :: l, i + 1, x, h, j, v, hv => by
  have := flat_get l i x (by simpa using h) j v hv
  unfold flat at *
  simp only [List.flatMap_cons]
  rw [List.getElem?_append_right (by rw [Enc.len, Nat.add_mul]; omega)]
  rw [Enc.len, show (i + 1) * Enc.s α + j - Enc.s α = i * Enc.s α + j by rw [Nat.add_mul]; omega]
  exact this
theorem Rd.of_block {α : Type} [Enc α] {m : Mem} {g : Nat} {c : Array Value} {t : TypeId} {fr : Nat × Nat} {l : List α} {spare : List Value} (h : m g = some (.cells c t fr)) (hc : c.toList = flat Enc.e l ++ spare) : Rd m (some ⟨g, 0, none⟩) l := by
 intro i x hx j v hv
 rw [add_eq rfl, cO h]
 have h1 := flat_get l i x hx j v hv
 rw [← Array.getElem?_toList, hc, Nat.zero_add, List.getElem?_append_left (List.getElem?_eq_some_iff.1 h1).1]
 exact h1
theorem cells_of_rd {α : Type} [Enc α] {m : Mem} : ∀ {a : Option Addr} {l : List α}, Rd m a l → CellsAt m a (flat Enc.e l)
 | none, l, h => by
  simp only [Rd] at h
  subst h
  rfl
 | some ad, l, h => by
  suffices key : ∀ (l : List α) (k : Nat), (∀ (i : Nat) (x : α), l[i]? = some x → ∀ (j : Nat) (v : Value), (Enc.e x)[j]? = some v → m.cell? (ad.add (k + i * Enc.s α + j)) = some v) →
    ∀ j v, (flat Enc.e l)[j]? = some v → m.cell? (ad.add (k + j)) = some v by
   intro j v hj
   have := key l 0 (fun i x hx j v hv => by simpa using h i x hx j v hv) j v hj
   simpa using this
  intro l
  induction l with
  | nil => intro k _ j v hj; simp [flat] at hj
  | cons x l ih =>
   intro k hk j v hj
   unfold flat at hj
   simp only [List.flatMap_cons] at hj
   by_cases hlt : j < (Enc.e x).length
   ·rw [List.getElem?_append_left hlt] at hj
    have := hk 0 x rfl j v hj
    simpa using this
   ·rw [List.getElem?_append_right (by omega), Enc.len] at hj
    have hlt' : ¬ j < Enc.s α := by rw [← Enc.len x]; exact hlt
    have := ih (k + Enc.s α) (fun i y hy j v hv => by have := hk (i + 1) y (by simpa using hy) j v hv; rwa [Nat.add_mul, Nat.one_mul, ← Nat.add_assoc, Nat.add_right_comm k] at this) (j - Enc.s α) v hj
    rwa [show k + Enc.s α + (j - Enc.s α) = k + j by omega] at this
theorem idx {α : Type} [Enc α] {m : Mem} {a : Option Addr} {l : List α} {i : Int} {n : Nat} {K : Addr → Prop} (h : Rd m a l) (hn : l.length = n) (h0 : 0 ≤ i) (hi : i < n)
  (hK : ∀ ad, a = some ad → (∀ (j : Nat) (v : Value), (Enc.e (l[i.toNat]'(by omega)))[j]? = some v → m.cell? (ad.add (i.toNat * Enc.s α + j)) = some v) → K ad) : optA a fun ad => 0 ≤ i ∧ i < (n : Int) ∧ K ad := by
 have hlt : i.toNat < l.length := by omega
 cases a with
 | none =>
  simp only [Rd] at h
  subst h
  simp at hlt
 | some ad => exact ⟨h0, hi, hK ad rfl fun j v hv => h i.toNat _ (List.getElem?_eq_getElem hlt) j v hv⟩
theorem idx' {α : Type} [Enc α] {m : Mem} {a : Option Addr} {l : List α} {i : Int} {n : Nat} {K : Addr → Prop} (h : Rd m a l) (hn : l.length = n) (h0 : 0 ≤ i) (hi : i < n)
  (hK : ∀ ad, a = some ad → (∀ (j : Nat) (v : Value), (Enc.e (l[i.toNat]'(by omega)))[j]? = some v → m.cell? ((ad.add (i.toNat * Enc.s α)).add j) = some v) → K ad) : optA a fun ad => 0 ≤ i ∧ i < (n : Int) ∧ K ad :=
 idx h hn h0 hi fun ad ha hc => hK ad ha fun j v hv => by rw [add_add]; exact hc j v hv
theorem le_upd_fresh {m m' : Mem} {g : Nat} {o : Obj} (h : Mem.le m m') (hg : m g = none) : Mem.le m (m'.upd g o) := by
 intro b x e
 rw [upd_ne]
 ·exact h b x e
 ·rintro rfl
  rw [hg] at e
  cases e
theorem wsucc {i n : Nat} (h : i < n) (hn : n ≤ 2 ^ 40) : IntKind.i64.wrap ((i : Int) + (1 : Int)) = ((i + 1 : Nat) : Int) := by
 unfold IntKind.wrap
 simp [IntKind.bits, IntKind.signed]
 omega
instance : Enc Int := ⟨fun x => [.int .i64 x], 1, fun _ => rfl, fun _ => rfl⟩
instance : Enc Bool := ⟨fun x => [.bool x], 1, fun _ => rfl, fun _ => rfl⟩
instance : Enc ByteArray := ⟨fun x => [.string x], 1, fun _ => rfl, fun _ => rfl⟩
instance {α β : Type} [Enc α] [Enc β] : Enc (α × β) := ⟨fun x => Enc.e x.1 ++ Enc.e x.2, Enc.s α + Enc.s β, fun x => by simp [Enc.len], fun x => by simp [Enc.one]⟩
theorem w64 {x : Int} (h0 : -9223372036854775808 ≤ x) (h1 : x ≤ 9223372036854775807) : IntKind.i64.wrap x = x := by
 unfold IntKind.wrap
 simp [IntKind.bits, IntKind.signed]
 omega
theorem flat_cons {α : Type} [Enc α] (x : α) (l : List α) : flat Enc.e (x :: l) = Enc.e x ++ flat Enc.e l := rfl
theorem flat_append {α : Type} [Enc α] (l r : List α) : flat (Enc.e (α := α)) (l ++ r) = flat Enc.e l ++ flat Enc.e r := by simp [flat]
theorem flat_one {α : Type} [Enc α] : ∀ l : List α, (flat Enc.e l).all one = true
 | [] => rfl
 | x :: l => by rw [flat_cons, List.all_append, Enc.one, flat_one l]; rfl
theorem zeroRow_eq {α : Type} [Enc α] (z : α) (n : Nat) : zeroRow (Enc.e z).toArray (n * Enc.s α) = (flat Enc.e (List.replicate n z)).toArray := by
 apply Array.ext'
 unfold zeroRow
 simp only [Array.toList_map, Array.toList_range]
 induction n with
 | zero => simp [flat]
 | succ n ih =>
  rw [Nat.add_mul, Nat.one_mul, List.range_add, List.map_append, ih, List.replicate_succ', flat_append]
  congr 1
  simp only [flat, List.flatMap_cons, List.flatMap_nil, List.append_nil, List.map_map]
  apply List.ext_getElem
  ·simp [Enc.len]
  ·intro k h1 h2
   simp only [List.length_map, List.length_range] at h1
   simp only [List.getElem_map, List.getElem_range, Function.comp_apply, List.size_toArray, Enc.len]
   rw [Nat.add_comm, Nat.add_mul_mod_self_right, Nat.mod_eq_of_lt h1]
   simp [h2]
theorem upd_row {α : Type} (f : Nat → α) (xs : List α) (i : Nat) (h : i < xs.length) :
  ((List.range i).map f ++ xs.drop i).set i (f i) = (List.range (i + 1)).map f ++ xs.drop (i + 1) := by
 rw [List.set_append_right _ _ (by simp)]
 simp only [List.length_map, List.length_range, Nat.sub_self, List.range_succ, List.map_append, List.map_cons, List.map_nil, List.append_assoc, List.singleton_append]
 rw [List.drop_eq_getElem_cons h]
 rfl
theorem growBy_le (need : Nat) : ∀ (r c : Nat), Builtin.growBy need r c ≤ max c (need + (need + 768) / 4)
 | 0, c => by simp only [Builtin.growBy]; omega
 | r + 1, c => by
  simp only [Builtin.growBy]
  split
  ·omega
  ·have := growBy_le need r (c + (c + 768) / 4)
   omega
theorem nextcap_le {need c : Nat} (h : c < need) : Builtin.nextslicecap need c ≤ 2 * need + 1000 := by
 unfold Builtin.nextslicecap
 split
 ·omega
 ·split
  ·omega
  ·have := growBy_le need 4 c
   omega
theorem cellsAt_block {m : Mem} {g : Nat} {t : TypeId} {L spare : List Value} (h : m g = some (.cells (L ++ spare).toArray t (0, 0))) : CellsAt m (some ⟨g, 0, none⟩) L := by
 intro j v hj
 rw [add_eq rfl, cO h, Nat.zero_add]
 simp only [List.getElem?_toArray]
 rw [List.getElem?_append_left (List.getElem?_eq_some_iff.1 hj).1]
 exact hj
theorem set_all_mid : ∀ (vs A B : List Value), vs.length ≤ B.length → setAll (A ++ B).toArray A.length vs = (A ++ vs ++ B.drop vs.length).toArray := by
 intro vs
 induction vs with
 | nil => intro A B _; simp [setAll]
 | cons v r ih =>
  intro A B hB
  cases B with
  | nil => simp at hB
  | cons y B =>
   simp only [setAll, List.setIfInBounds_toArray]
   rw [List.set_append_right _ _ (Nat.le_refl _), Nat.sub_self, List.set_cons_zero]
   have := ih (A ++ [v]) B (by simpa using hB)
   simp only [List.length_append, List.length_singleton, List.append_assoc, List.singleton_append] at this
   rw [this]
   simp
theorem Rd.take {α : Type} [Enc α] {m : Mem} {a : Option Addr} {l : List α} (h : Rd m a l) (k : Nat) : Rd m a (l.take k) := by
 cases a with
 | none => simp only [Rd] at *; subst h; simp
 | some ad =>
  intro i x hx j v hv
  refine h i x ?_ j v hv
  rw [List.getElem?_take] at hx
  split at hx
  ·exact hx
  ·cases hx
theorem Rd.drop {α : Type} [Enc α] {m : Mem} {a : Option Addr} {l : List α} (h : Rd m a l) (k : Nat) : Rd m (Option.map (·.add (k * Enc.s α)) a) (l.drop k) := by
 cases a with
 | none => simp only [Rd] at h; subst h; show List.drop k [] = []; simp
 | some ad =>
  intro i x hx j v hv
  rw [List.getElem?_drop] at hx
  have := h (k + i) x hx j v hv
  rw [add_add, ← Nat.add_assoc, ← Nat.add_mul]
  exact this
end Go.Proofs.YtpkehednooilhaaGreat.Abs
namespace Go.Proofs.YtpkehednooilhaaGreat.Abs
open Go.ChangeShapes Go.WideShapes Go.RowKit
def memOf (w : World) : Mem := fun b => w.heap[b]?
theorem memOf_cell (w : World) (a : Addr) : (memOf w).cell? a = w.cell? a := by
 unfold Mem.cell? memOf World.cell?
 cases w.heap[a.block]? with
 | none => rfl
 | some o => rfl
theorem below_of {w w' : World} {M : Mem} {D : Nat → Prop} (hle : Mem.le (memOf w) M) (h : Rel D w M w') : Below w.heap.size w w' := by
 refine ⟨h.os, h.tape, h.output, h.size, fun k hk => ?_⟩
 have : memOf w k = some w.heap[k] := by unfold memOf; exact Array.getElem?_eq_getElem hk
 rw [h.emb _ _ (hle _ _ this), Array.getElem?_eq_getElem hk]
structure Kd (α : Type) where
 sz : Nat
 K : Mem → α → List Value → Prop
def Kd.enc (α : Type) [Enc α] : Kd α := ⟨Enc.s α, fun _ y cs => cs = Enc.e y⟩
def RdK {α : Type} (d : Kd α) (m : Mem) (a : Option Addr) (l : List α) : Prop :=
 match a with
 | none => l = []
 | some ad => ∀ (i : Nat) (x : α), l[i]? = some x → ∃ ce : List Value, ce.length = d.sz ∧ d.K m x ce ∧ ∀ (j : Nat) (v : Value), ce[j]? = some v → m.cell? (ad.add (i * d.sz + j)) = some v
def Kd.slice {α : Type} (d : Kd α) : Kd (List α) := ⟨1, fun m l cs => ∃ a c, cs = [.slice a l.length c] ∧ l.length ≤ 9223372036854775807 ∧ RdK d m a l⟩
theorem RdK.rd {α : Type} [Enc α] {m : Mem} {a : Option Addr} {l : List α} (h : RdK (Kd.enc α) m a l) : Rd m a l := by
 cases a with
 | none => exact h
 | some ad =>
  intro i x hx j v hv
  obtain ⟨ce, _, rfl, hc⟩ := h i x hx
  exact hc j v hv
def Opens {α : Type} (P : Program) (t : TypeId) (d : Kd α) (ok : α → Prop) : Prop :=
 ∀ (H : Type) (enc : TypeId × Value → H) (w : World) (spare : Nat → Bool) (fuel : Nat) (cs : List Value) (x : DataW H × List MemPlace),
  DataW.trod enc P w 0 spare true fuel t cs = some x → ∃ y : α, d.K (memOf w) y cs ∧ ok y
theorem opens_slice {α : Type} {P : Program} {t e : TypeId} {d : Kd α} {ok : α → Prop} [Inhabited α] (hu : P.underlying t = some (.slice e)) (hc : P.cellsOf e = d.sz) (hd : Opens P e d ok) :
  Opens P t (Kd.slice d) (fun l => ∀ x ∈ l, ok x) := by
 intro H enc w spare fuel cs x h
 rcases Deep.open_slice hu h with ⟨rfl, _⟩ | ⟨a, len, cap, m, n, D, Pl, rfl, hb, hl, hm, hmm, _, hx⟩
 ·exact ⟨[], ⟨none, 0, rfl, by simp, rfl⟩, by simp⟩
 ·have hlm : len ≤ m := by rw [hmm]; split <;> omega
  have key : ∀ i, i < len → ∃ y : α, ∃ c, c.length = d.sz ∧ d.K (memOf w) y c ∧ (∀ j u, c[j]? = some u → (memOf w).cell? (a.add (i * d.sz + j)) = some u) ∧ ok y := by
   intro i hi
   obtain ⟨cs', h1, h2⟩ := hx i (by omega)
   obtain ⟨y, hy, hk⟩ := hd H enc w spare n cs' _ h2
   rw [hc] at h1
   obtain ⟨_, hlen, hcell⟩ := World.cells?_some h1
   refine ⟨y, cs', hlen, hy, fun j u hj => ?_, hk⟩
   have hjl := (List.getElem?_eq_some_iff.1 hj).1
   have h3 := hcell j (by omega)
   rw [hj] at h3
   rw [memOf_cell, ← add_add]
   exact h3
  obtain ⟨f, hf⟩ := Deep.choose_lt (p := fun i y => ∃ c, c.length = d.sz ∧ d.K (memOf w) y c ∧ (∀ j u, c[j]? = some u → (memOf w).cell? (a.add (i * d.sz + j)) = some u) ∧ ok y) key
  have hll : ((List.range len).map f).length = len := by simp
  refine ⟨(List.range len).map f, ⟨some a, cap, by rw [hll], by rw [hll]; unfold maxLen at hm; omega, fun i x hi => ?_⟩, fun x hx => ?_⟩
  ·have hil := (List.getElem?_eq_some_iff.1 hi).1
   rw [hll] at hil
   have hp : x = f i := by
    rw [List.getElem?_map, List.getElem?_range hil] at hi
    simpa using hi.symm
   subst hp
   obtain ⟨c, h1, h2, h3, _⟩ := hf i hil
   exact ⟨c, h1, h2, h3⟩
  ·obtain ⟨i, hi, rfl⟩ := List.mem_map.1 hx
   obtain ⟨c, _, _, _, h4⟩ := hf i (by simpa using hi)
   exact h4
end Go.Proofs.YtpkehednooilhaaGreat.Abs
namespace Go.Proofs.YtpkehednooilhaaGreat.Abs
open Go.RowKit
structure Sl where
 a : Option Addr
 n : Nat
 c : Nat
instance : Enc Sl := ⟨fun s => [.slice s.a s.n s.c], 1, fun _ => rfl, fun _ => rfl⟩
structure U64 where
 v : Int
 deriving DecidableEq, Inhabited
instance : Enc U64 := ⟨fun x => [.int .u64 x.v], 1, fun _ => rfl, fun _ => rfl⟩
structure U8 where
 v : Int
 deriving DecidableEq, Inhabited
instance : Enc U8 := ⟨fun x => [.int .u8 x.v], 1, fun _ => rfl, fun _ => rfl⟩
theorem le_none {m M : Mem} {g : Nat} (h : Mem.le m M) (hg : M g = none) : m g = none := by
 cases e : m g with
 | none => rfl
 | some o => rw [h _ _ e] at hg; cases hg
theorem le_other {m M M' : Mem} {g : Nat} (h : Mem.le m M) (hg : m g = none) (ho : ∀ b, b ≠ g → M' b = M b) : Mem.le m M' := by
 intro b x e
 have : b ≠ g := by rintro rfl; rw [hg] at e; cases e
 rw [ho b this]
 exact h b x e
theorem le_off {m M M' : Mem} {D : List Nat} (h : Mem.le m M) (hg : ∀ b ∈ D, m b = none) (ho : ∀ b, b ∉ D → M' b = M b) : Mem.le m M' := by
 intro b x e
 have : b ∉ D := fun hb => by rw [hg b hb] at e; cases e
 rw [ho b this]
 exact h b x e
theorem sto_elem {α : Type} [Enc α] {m : Mem} {g i : Nat} {t : TypeId} {l : List α} {spare : List Value} {a : Addr} {x : α} {K : Mem → Prop} (hm : m g = some (.cells (flat Enc.e l ++ spare).toArray t (0, 0))) (ha : a = ⟨g, i * Enc.s α, none⟩) (hi : i < l.length)
  (hK : K (m.upd g (.cells (flat Enc.e (l.set i x) ++ spare).toArray t (0, 0)))) : stoA m a (Enc.e x) K := by
 subst ha
 have hl : l = l.take i ++ (l[i] :: l.drop (i + 1)) := by rw [← List.drop_eq_getElem_cons hi, List.take_append_drop]
 have hf : flat Enc.e l = flat Enc.e (l.take i) ++ (Enc.e l[i] ++ flat Enc.e (l.drop (i + 1))) := by
  conv => lhs; rw [hl]
  rw [flat_append, flat_cons]
 have hlen : (flat Enc.e (l.take i)).length = i * Enc.s α := by rw [flat_len, List.length_take]; congr 1; omega
 refine sto hm (Enc.one x) ?_ fun m' e _ _ => ?_
 ·rw [hf]
  simp [hlen, Enc.len]
 ·rw [e]
  have : setAll (flat Enc.e l ++ spare).toArray (i * Enc.s α) (Enc.e x) = (flat Enc.e (l.set i x) ++ spare).toArray := by
   have h1 := set_all_mid (Enc.e x) (flat Enc.e (l.take i)) (Enc.e l[i] ++ (flat Enc.e (l.drop (i + 1)) ++ spare)) (by simp [Enc.len])
   rw [hlen] at h1
   have h2 : flat Enc.e l ++ spare = flat Enc.e (l.take i) ++ (Enc.e l[i] ++ (flat Enc.e (l.drop (i + 1)) ++ spare)) := by rw [hf]; simp only [List.append_assoc]
   rw [h2, h1]
   have h3 : (Enc.e l[i] ++ (flat Enc.e (l.drop (i + 1)) ++ spare)).drop (Enc.e x).length = flat Enc.e (l.drop (i + 1)) ++ spare := by
    rw [Enc.len]
    exact List.drop_left' (Enc.len _)
   rw [h3]
   have h4 : l.set i x = l.take i ++ (x :: l.drop (i + 1)) := by rw [List.set_eq_take_append_cons_drop, if_pos hi]
   rw [h4, flat_append, flat_cons]
   simp only [List.append_assoc]
  rw [this]
  exact hK
def OwnL {α : Type} [Enc α] (m : Mem) (s : Sl) (l : List α) (D : List Nat) : Prop :=
 s.n = l.length ∧ ((s.a = none ∧ s.c = 0 ∧ l = [] ∧ D = []) ∨ ∃ g t spare, s.a = some ⟨g, 0, none⟩ ∧ D = [g] ∧ m g = some (.cells (flat Enc.e l ++ spare).toArray t (0, 0)) ∧ l.length * Enc.s α + spare.length = s.c * Enc.s α)
theorem OwnL.rd {α : Type} [Enc α] {m : Mem} {s : Sl} {l : List α} {D : List Nat} (h : OwnL m s l D) : Rd m s.a l := by
 obtain ⟨_, ⟨h1, _, h2, _⟩ | ⟨g, t, spare, h1, _, h2, _⟩⟩ := h
 ·rw [h1, h2]; rfl
 ·rw [h1]; exact Rd.of_block (spare := spare) h2 rfl
theorem OwnL.ext {α : Type} [Enc α] {m m' : Mem} {s : Sl} {l : List α} {D : List Nat} (h : OwnL m s l D) (he : ∀ b ∈ D, m' b = m b) : OwnL m' s l D := by
 obtain ⟨h0, ⟨h1, h2, h3⟩ | ⟨g, t, spare, h1, hD, h2, h3⟩⟩ := h
 ·exact ⟨h0, .inl ⟨h1, h2, h3⟩⟩
 ·exact ⟨h0, .inr ⟨g, t, spare, h1, hD, by rw [he g (by rw [hD]; simp)]; exact h2, h3⟩⟩
theorem OwnL.live {α : Type} [Enc α] {m : Mem} {s : Sl} {l : List α} {D : List Nat} (h : OwnL m s l D) : ∀ b ∈ D, ∃ o, m b = some o := by
 obtain ⟨_, ⟨_, _, _, h2⟩ | ⟨g, t, spare, h1, hD, h2, _⟩⟩ := h
 ·rw [h2]; simp
 ·intro b hb
  rw [hD, List.mem_singleton] at hb
  subst hb
  exact ⟨_, h2⟩
structure Ds (α : Type) where
 H : Type
 enc : Enc H
 At : Mem → H → α → Prop
 Own : Mem → H → α → List Nat → Prop
 at_le : ∀ {m m' h x}, Mem.le m m' → At m h x → At m' h x
 own_at : ∀ {m h x D}, Own m h x D → At m h x
 own_ext : ∀ {m m' h x D}, Own m h x D → (∀ b ∈ D, m' b = m b) → Own m' h x D
 live : ∀ {m h x D}, Own m h x D → ∀ b ∈ D, ∃ o, m b = some o
instance {α : Type} (d : Ds α) : Enc d.H := d.enc
def Ds.rows (α : Type) [Enc α] : Ds (List α) :=
 ⟨Sl, inferInstance, fun m s l => s.n = l.length ∧ Rd m s.a l, fun m s l D => OwnL m s l D, fun hl h => ⟨h.1, h.2.le hl⟩, fun h => ⟨h.1, h.rd⟩, fun h he => h.ext he, fun h => h.live⟩
theorem Ds.own_le {α : Type} (d : Ds α) {m m' : Mem} {h : d.H} {x : α} {D : List Nat} (hl : Mem.le m m') (ho : d.Own m h x D) : d.Own m' h x D :=
 d.own_ext ho fun b hb => by
  obtain ⟨o, e⟩ := d.live ho b hb
  rw [e]
  exact hl _ _ e
section
variable {α : Type}
end
def vs (s : Sl) : Value := .slice s.a s.n s.c
theorem app_sl {α : Type} [Enc α] {m : Mem} {s : Sl} {D : List Nat} {k sz bytes : Nat} {t : TypeId} {l l2 : List α} {src : Option Addr} {z : Array Value} {K : Option Addr → Nat → Mem → Prop} (hs : Enc.s α = sz) (hz : z.size = sz) (h0 : 0 < sz) (hb : bytes ≠ 0) (hb2 : bytes ≤ 64)
  (hO : OwnL m s l D) (hk : l2.length = k) (hx : Rd m src l2) (hl : l.length + k ≤ 2 ^ 40)
  (hK : ∀ (s' : Sl) (D' : List Nat) (m' : Mem), s'.n = s.n + k → OwnL m' s' (l ++ l2) D' → (∀ b, b ∉ D' → m' b = m b) → (D' = D ∨ ∀ b ∈ D', m b = none) → D'.Nodup → K s'.a s'.c m') :
  appR m s.a s.n s.c src k sz bytes z t K := by
 obtain ⟨a, n, c⟩ := s
 obtain ⟨hn, hO⟩ := hO
 have hn2 : n = l.length := hn
 have h2k : (flat Enc.e l2).length = k * sz := by rw [flat_len, hk, hs]
 have h1n : (flat Enc.e l).length = n * sz := by rw [flat_len, hs, hn2]
 have hK' : ∀ (s' : Sl) (D' : List Nat) (m' : Mem), s'.n = n + k → OwnL m' s' (l ++ l2) D' → (∀ b, b ∉ D' → m' b = m b) → (D' = D ∨ ∀ b ∈ D', m b = none) → D'.Nodup → K s'.a s'.c m' := hK
 refine ⟨flat Enc.e l2, h2k, cells_of_rd hx, fun h => ?_, fun h => ⟨hb, ?_, flat Enc.e l, h1n, ?_, fun g' nc hnc hg' => ?_⟩⟩
 ·have h : n + k ≤ c := h
  rcases hO with ⟨ha, hc, hl0, hD⟩ | ⟨g, ty, spare, ha, hD, hm, hsz⟩
  ·have ha : a = none := ha
   have hc : c = 0 := hc
   subst ha hc
   have hl2 : l2 = [] := List.eq_nil_of_length_eq_zero (by omega)
   show K none 0 m
   refine hK' ⟨none, n, 0⟩ [] m (by show n = n + k; omega) ⟨by show n = (l ++ l2).length; rw [hl2]; simpa using hn2, .inl ⟨rfl, rfl, by rw [hl0, hl2]; rfl, rfl⟩⟩ (fun _ _ => rfl) (.inl hD.symm) List.nodup_nil
  ·have ha : a = some ⟨g, 0, none⟩ := ha
   subst ha
   have hsz : n * sz + spare.length = c * sz := by
    rw [← hs, hn2]
    exact hsz
   have h2 : (n + k) * sz ≤ c * sz := Nat.mul_le_mul_right _ h
   rw [Nat.add_mul] at h2
   have hsp : k * sz ≤ spare.length := by omega
   show stoA m ((⟨g, 0, none⟩ : Addr).add (n * sz)) (flat Enc.e l2) _
   rw [add_eq rfl, Nat.zero_add]
   refine sto (c := (flat Enc.e l ++ spare).toArray) (t := ty) hm (flat_one l2) (by simp [h1n, h2k]; omega) fun m' e he hne => ?_
   have hset : setAll (flat Enc.e l ++ spare).toArray (n * sz) (flat Enc.e l2) = (flat Enc.e (l ++ l2) ++ spare.drop (k * sz)).toArray := by
    have hk := set_all_mid (flat Enc.e l2) (flat Enc.e l) spare (by rw [h2k]; exact hsp)
    rw [h1n, h2k] at hk
    rw [hk, flat_append]
   rw [hset] at he
   refine hK' ⟨some ⟨g, 0, none⟩, n + k, c⟩ [g] m' rfl ⟨by show n + k = (l ++ l2).length; rw [List.length_append]; omega, .inr ⟨g, ty, spare.drop (k * sz), rfl, rfl, he, ?_⟩⟩ (fun b hb => hne b (by simpa using hb)) (.inl hD.symm) (by simp)
   show (l ++ l2).length * Enc.s α + (spare.drop (k * sz)).length = c * Enc.s α
   rw [hs, List.length_drop, List.length_append, ← hn2, hk, Nat.add_mul]
   omega
 ·have h1 := nextcap_le (show c < n + k from h)
  have h2 : Builtin.nextslicecap (n + k) c * bytes ≤ (2 * (n + k) + 1000) * 64 := Nat.mul_le_mul h1 hb2
  have h3 : (2 * (n + k) + 1000) * 64 ≤ 2 ^ 48 := by clear h2 h1 hK hK'; omega
  exact Nat.le_trans h2 h3
 ·exact cells_of_rd (OwnL.rd (s := ⟨a, n, c⟩) (D := D) ⟨hn, hO⟩)
 ·have hnc : n + k ≤ nc := hnc
  have e1 : ((flat Enc.e l).toArray ++ (flat Enc.e l2).toArray ++ Builtin.zeroCells z (nc - (n + k))) = (flat Enc.e (l ++ l2) ++ (Builtin.zeroCells z (nc - (n + k))).toList).toArray := by
   apply Array.ext'
   rw [flat_append]
   simp
  have e2 : (Builtin.zeroCells z (nc - (n + k))).toList.length = (nc - (n + k)) * sz := by
   unfold Builtin.zeroCells
   simp [hz]
  show K (some ⟨g', 0, none⟩) nc (m.upd g' (.cells ((flat Enc.e l).toArray ++ (flat Enc.e l2).toArray ++ Builtin.zeroCells z (nc - (n + k))) t (0, 0)))
  rw [e1]
  refine hK' ⟨some ⟨g', 0, none⟩, n + k, nc⟩ [g'] _ rfl ⟨by show n + k = (l ++ l2).length; rw [List.length_append]; omega, .inr ⟨g', t, _, rfl, rfl, upd_same _ _ _, ?_⟩⟩ (fun b hb => upd_ne (by simpa using hb)) (.inr (by simpa using hg')) (by simp)
  show (l ++ l2).length * Enc.s α + _ = nc * Enc.s α
  rw [e2, hs, List.length_append, ← hn2, hk, ← Nat.add_mul]
  exact congrArg (· * sz) (by omega)
end Go.Proofs.YtpkehednooilhaaGreat.Abs
namespace Go.Proofs.YtpkehednooilhaaGreat.Abs
open Go.ChangeShapes Go.WideShapes Go.RowKit
theorem opens_u8 {P : Program} {t : TypeId} (hu : P.underlying t = some (.int .u8)) : Opens P t (Kd.enc U8) (fun x => 0 ≤ x.v ∧ x.v ≤ 255) := by
 intro H enc w spare fuel cs x h
 obtain ⟨n, rfl, _, hw⟩ := DataW.trod_int hu h
 refine ⟨⟨n⟩, rfl, ?_⟩
 unfold Lit.wf at hw
 simp [IntKind.min, IntKind.max, IntKind.bits, IntKind.signed] at hw
 show 0 ≤ n ∧ n ≤ 255
 omega
end Go.Proofs.YtpkehednooilhaaGreat.Abs
namespace Go.Proofs.YtpkehednooilhaaGreat.Abs
open Go.RowKit
theorem mixed : Tryz.prog.follows .mixedOrders = true := by kernel_rfl
theorem ite_ret {c : Prop} [Decidable c] {Q : Value → Mem → Prop} {a b : Value} {m : Mem} : (if c then ret Q a m else ret Q b m) = ret Q (if c then a else b) m := by split <;> rfl
theorem ite_bool {c : Prop} [Decidable c] {a b : Bool} : (if c then Value.bool a else Value.bool b) = .bool (if c then a else b) := by split <;> rfl
theorem ite_int {c : Prop} [Decidable c] {k : IntKind} {a b : Int} : (if c then Value.int k a else Value.int k b) = .int k (if c then a else b) := by split <;> rfl
theorem and_bits {n M : Nat} (hn : n < 2 ^ 64) (hM : M < 2 ^ 64) : IntKind.u64.wrap (BitVec.toNat (BitVec.ofInt (IntKind.bits .u64) (n : Int) &&& BitVec.ofInt (IntKind.bits .u64) (M : Int))) = ((n &&& M : Nat) : Int) := by
 have e1 : BitVec.ofInt (IntKind.bits .u64) (n : Int) = BitVec.ofNat 64 n := by simp [IntKind.bits]
 have e2 : BitVec.ofInt (IntKind.bits .u64) (M : Int) = BitVec.ofNat 64 M := by simp [IntKind.bits]
 rw [e1, e2]
 have e3 : (BitVec.ofNat 64 n &&& BitVec.ofNat 64 M).toNat = n &&& M := by
  rw [BitVec.toNat_and, BitVec.toNat_ofNat, BitVec.toNat_ofNat, Nat.mod_eq_of_lt hn, Nat.mod_eq_of_lt hM]
 have hlt : n &&& M < 2 ^ 64 := Nat.lt_of_le_of_lt Nat.and_le_left hn
 show IntKind.u64.wrap ((BitVec.ofNat 64 n &&& BitVec.ofNat 64 M).toNat : Int) = _
 rw [e3]
 unfold IntKind.wrap
 simp only [IntKind.bits, IntKind.signed, Bool.false_and, Bool.false_eq_true, if_false]
 omega
theorem and_mask {w : Int} {k M : Nat} (hM : M = 2 ^ k - 1) (hk : k ≤ 63) (h0 : 0 ≤ w) (h1 : w < 18446744073709551616) : IntKind.u64.wrap (BitVec.toNat (BitVec.ofInt (IntKind.bits .u64) w &&& BitVec.ofInt (IntKind.bits .u64) (M : Int))) = w % ((2 ^ k : Nat) : Int) := by
 obtain ⟨n, rfl⟩ := Int.eq_ofNat_of_zero_le h0
 have h2 : 2 ^ k ≤ 2 ^ 63 := Nat.pow_le_pow_right (by omega) hk
 rw [and_bits (by omega) (by omega), hM, Nat.and_two_pow_sub_one_eq_mod]
 rfl
theorem and_top {w : Int} (h0 : 0 ≤ w) (h1 : w < 18446744073709551616) : IntKind.u64.wrap (BitVec.toNat (BitVec.ofInt (IntKind.bits .u64) w &&& BitVec.ofInt (IntKind.bits .u64) (9223372036854775808 : Int))) = if w < 9223372036854775808 then 0 else 9223372036854775808 := by
 obtain ⟨n, rfl⟩ := Int.eq_ofNat_of_zero_le h0
 have e := and_bits (n := n) (M := 2 ^ 63) (by omega) (by omega)
 rw [show ((2 ^ 63 : Nat) : Int) = 9223372036854775808 by rfl] at e
 rw [e]
 by_cases h : n < 2 ^ 63
 ·rw [if_pos (by omega)]
  have e0 : n &&& 2 ^ 63 = 0 := by
   apply Nat.eq_of_testBit_eq
   intro i
   rw [Nat.testBit_and, Nat.testBit_two_pow, Nat.zero_testBit]
   by_cases hi : 63 = i
   ·subst hi; rw [Nat.testBit_lt_two_pow h]; rfl
   ·simp [hi]
  rw [e0]; rfl
 ·have ht : n.testBit 63 = true := by
   rw [Nat.testBit_eq_decide_div_mod_eq]
   have : n / 2 ^ 63 = 1 := by omega
   rw [this]; rfl
  rw [if_neg (by omega)]
  have e0 : n &&& 2 ^ 63 = 2 ^ 63 := by
   apply Nat.eq_of_testBit_eq
   intro i
   rw [Nat.testBit_and, Nat.testBit_two_pow]
   by_cases hi : 63 = i
   ·subst hi; rw [ht]; rfl
   ·simp [hi]
  rw [e0]; rfl
theorem and_rest {w : Int} (h0 : 0 ≤ w) (h1 : w < 18446744073709551616) : IntKind.u64.wrap (BitVec.toNat (BitVec.ofInt (IntKind.bits .u64) w &&& ~~~ BitVec.ofInt (IntKind.bits .u64) (9223372036854775808 : Int))) = w % 9223372036854775808 := by
 have e : ~~~ BitVec.ofInt (IntKind.bits .u64) (9223372036854775808 : Int) = BitVec.ofInt (IntKind.bits .u64) ((9223372036854775807 : Nat) : Int) := by decide
 rw [e, and_mask (k := 63) (by rfl) (by omega) h0 h1]
 rfl
def sizeB (k s : Int) : Bool :=
 if k = 1 then decide (1 ≤ s ∧ s ≤ 21) else if k = 2 then decide (s = 3) else if k = 3 then decide (s = 16 ∨ s = 32 ∨ s = 64 ∨ s = 128 ∨ s = 256)
 else if k = 4 then decide (1 ≤ s ∧ s ≤ 25 ∧ s % 2 = 1) else if k = 5 then decide (s = 2) else if k = 6 then decide (s = 126) else false
def bornB (k : Int) : Bool := decide (k = 2 ∨ k = 4 ∨ k = 6)
def hdOk (k s z : Int) : Bool := sizeB k s && (if bornB k then decide (1 ≤ z ∧ z ≤ 1000000000) else decide (z = 0))
abbrev Hd := Int × Int × Int
def hdW (w : Int) : Hd := (w % 16, w / 16 % 65536, w / 1048576)
def okW (w : Int) : Bool := hdOk (w % 16) (w / 16 % 65536) (w / 1048576)
def readH (w : Int) : Hd × Bool := if okW w then (hdW w, true) else ((0, 0, 0), false)
def fwd (w : Int) : Int × Bool := if w < 9223372036854775808 ∨ w - 9223372036854775808 > 2147483647 then (0, false) else (w - 9223372036854775808, true)
def kindT (t : Int) : Int := if t = 3 then 1 else if t = 4 then 2 else if t = 5 then 4 else if t = 6 then 6 else if t = 8 then 3 else if t = 9 then 5 else 0
def isRefB (v : Int × Int) : Bool := kindT v.1 != 0
def valOkB (v : Int × Int) : Bool := if v.1 = 0 then decide (v.2 = 0) else if v.1 = 1 then decide (0 ≤ v.2 ∧ v.2 ≤ 1) else if v.1 = 2 then true else if v.1 = 7 then decide (1 ≤ v.2 ∧ v.2 ≤ 20) else isRefB v && decide (v.2 > 0)
def inW (w : Int) : Prop := 0 ≤ w ∧ w < 18446744073709551616
theorem ret_bool {m m2 : Mem} {Q : Value → Mem → Prop} {a b : Bool} (hle : Mem.le m m2) (h : Q (.bool b) m) (e : a = b) : ret Q (.bool a) m2 := by subst e; exact ⟨m, hle, h⟩
theorem ret_int {m m2 : Mem} {Q : Value → Mem → Prop} {a b : Int} {k : IntKind} (hle : Mem.le m m2) (h : Q (.int k b) m) (e : a = b) : ret Q (.int k a) m2 := by subst e; exact ⟨m, hle, h⟩
def s103 : Spec := fun args m Q => ∃ x lo hi : Int, args = [.int .i64 x, .int .i64 lo, .int .i64 hi] ∧ Q (.bool (decide (lo ≤ x ∧ x ≤ hi))) m
def s94 : Spec := s103
abbrev Mt (t : Tab) (s : Spec) (k : Option Nat → List Nat) (f : Func) : Prop := ∀ args m Q, s args m Q → FA Tryz.prog (look t) k f args m Q
theorem f103 (t : Tab) : Mt t s103 kp103 Tryz.f103 := by
 rintro args m Q ⟨x, lo, hi, rfl, h⟩
 rw [e103]
 simp only [ite_ret, ite_bool]
 refine ret_bool (Mem.le_refl _) h ?_
 by_cases h1 : lo ≤ x <;> by_cases h2 : x ≤ hi <;> simp [h1, h2]
theorem f94 (t : Tab) : Mt t s94 kp94 Tryz.f94 := by
 rintro args m Q ⟨x, lo, hi, rfl, h⟩
 rw [e94]
 simp only [ite_ret, ite_bool]
 refine ret_bool (Mem.le_refl _) h ?_
 by_cases h1 : lo ≤ x <;> by_cases h2 : x ≤ hi <;> simp [h1, h2]
def s207 : Spec := fun args m Q => ∃ x : Int, args = [.int .i64 x] ∧ Q (.int .i64 (kindT x)) m
def s180 : Spec := s207
theorem f207 (t : Tab) : Mt t s207 kp207 Tryz.f207 := by
 rintro args m Q ⟨x, rfl, h⟩
 rw [e207]
 simp only [ite_ret, ite_int]
 refine ret_int (Mem.le_refl _) h ?_
 unfold kindT
 simp only [beq_iff_eq]
theorem f180 (t : Tab) : Mt t s180 kp180 Tryz.f180 := by
 rintro args m Q ⟨x, rfl, h⟩
 rw [e180]
 simp only [ite_ret, ite_int]
 refine ret_int (Mem.le_refl _) h ?_
 unfold kindT
 simp only [beq_iff_eq]
def s190 : Spec := fun args m Q => ∃ k s : Int, args = [.int .i64 k, .int .i64 s] ∧ 0 ≤ s ∧ Q (.bool (sizeB k s)) m
theorem f190 (t : Tab) (h94 : look t 94 = s94) : Mt t s190 kp190 Tryz.f190 := by
 rintro args m Q ⟨k, s, rfl, h0, h⟩
 rw [e190]
 have et : Int.tmod s 2 = s % 2 := Int.tmod_eq_emod_of_nonneg h0
 simp only [h94, s94, s103, exists_and_left, exists_eq_left', List.getElem?_toArray, List.getElem?_cons_zero, List.getElem?_cons_succ, Option.some.injEq, Value.slice.injEq, Value.int.injEq, Value.bool.injEq, Value.string.injEq, Value.agg.injEq, Value.tuple.injEq, Value.pointer.injEq, List.cons.injEq, Array.mk.injEq, and_assoc, true_and, and_true, exists_eq_left, ne_eq, show ¬ ((2 : Int) = 0) by decide, not_false_iff]
 simp only [ite_ret, ite_bool, et]
 refine ret_bool (Mem.le_refl _) h ?_
 unfold sizeB
 clear et
 (apply Bool.eq_iff_iff.2; simp only [beq_iff_eq, decide_eq_true_eq, bne_iff_ne]; repeat' split) <;> (simp only [beq_iff_eq, bne_iff_ne, ne_eq, decide_eq_true_eq, Bool.and_eq_true, Bool.not_eq_true', iff_true, true_iff, iff_false, false_iff, Bool.false_eq_true, and_false, false_and, and_true, true_and, not_false_iff, not_true, Bool.or_eq_true, if_true, if_false] at *) <;> (first | done | omega | (split <;> simp only [decide_eq_true_eq, Bool.false_eq_true] at * <;> omega))
def s191 : Spec := fun args m Q => ∃ k : Int, args = [.int .i64 k] ∧ Q (.bool (bornB k)) m
theorem f191 (t : Tab) : Mt t s191 kp191 Tryz.f191 := by
 rintro args m Q ⟨k, rfl, h⟩
 rw [e191]
 simp only [ite_ret, ite_bool]
 refine ret_bool (Mem.le_refl _) h ?_
 unfold bornB
 by_cases h1 : k = 2 <;> by_cases h2 : k = 4 <;> by_cases h3 : k = 6 <;> simp [h1, h2, h3] <;> omega
def s104 : Spec := fun args m Q => ∃ k s z : Int, args = [.agg #[.int .i64 k, .int .i64 s, .int .i64 z]] ∧ 0 ≤ s ∧ Q (.bool (hdOk k s z)) m
def s23 : Spec := s104
theorem f104 (t : Tab) (h190 : look t 190 = s190) (h191 : look t 191 = s191) (h94 : look t 94 = s94) : Mt t s104 kp104 Tryz.f104 := by
 rintro args m Q ⟨k, s, z, rfl, h0, h⟩
 rw [e104]
 refine newA_intro fun g1 m2 hg1 e2 hb1 hle2 => ?_
 simp only [ci, cs, cb, hi, hs, hb, cO hb1, h94, s94, s103, h190, s190, h191, s191, h0, exists_and_left, exists_eq_left', List.getElem?_toArray, List.getElem?_cons_zero, List.getElem?_cons_succ, Option.some.injEq, Value.slice.injEq, Value.int.injEq, Value.bool.injEq, Value.string.injEq, Value.agg.injEq, Value.tuple.injEq, Value.pointer.injEq, List.cons.injEq, Array.mk.injEq, and_assoc, true_and, and_true, exists_eq_left, ite_ret, ite_bool]
 refine ret_bool hle2 h ?_
 unfold hdOk
 have : (z == 0) = decide (z = 0) := by (apply Bool.eq_iff_iff.2; simp only [beq_iff_eq, decide_eq_true_eq, bne_iff_ne]; repeat' split) <;> (simp only [beq_iff_eq, bne_iff_ne, ne_eq, decide_eq_true_eq, Bool.and_eq_true, Bool.not_eq_true', iff_true, true_iff, iff_false, false_iff, Bool.false_eq_true, and_false, false_and, and_true, true_and, not_false_iff, not_true, Bool.or_eq_true, if_true, if_false] at *) <;> (first | done | omega | (split <;> simp only [decide_eq_true_eq, Bool.false_eq_true] at * <;> omega))
 rw [this]
 cases sizeB k s <;> cases bornB k <;> simp
theorem f23 (t : Tab) (h103 : look t 103 = s103) : Mt t s23 kp23 Tryz.f23 := by
 rintro args m Q ⟨k, s, z, rfl, h0, h⟩
 rw [e23]
 refine newA_intro fun g1 m2 hg1 e2 hb1 hle2 => ?_
 have et : Int.tmod s 2 = s % 2 := Int.tmod_eq_emod_of_nonneg h0
 simp only [ci, cs, cb, hi, hs, hb, cO hb1, h103, s103, exists_and_left, exists_eq_left', List.getElem?_toArray, List.getElem?_cons_zero, List.getElem?_cons_succ, Option.some.injEq, Value.slice.injEq, Value.int.injEq, Value.bool.injEq, Value.string.injEq, Value.agg.injEq, Value.tuple.injEq, Value.pointer.injEq, List.cons.injEq, Array.mk.injEq, and_assoc, true_and, and_true, exists_eq_left, ne_eq, show ¬ ((2 : Int) = 0) by decide, not_false_iff, ite_ret, ite_bool, et]
 refine ret_bool hle2 h ?_
 unfold hdOk sizeB bornB
 clear et
 (apply Bool.eq_iff_iff.2; simp only [beq_iff_eq, decide_eq_true_eq, bne_iff_ne]; repeat' split) <;> (simp only [beq_iff_eq, bne_iff_ne, ne_eq, decide_eq_true_eq, Bool.and_eq_true, Bool.not_eq_true', iff_true, true_iff, iff_false, false_iff, Bool.false_eq_true, and_false, false_and, and_true, true_and, not_false_iff, not_true, Bool.or_eq_true, if_true, if_false] at *) <;> (first | done | omega | (split <;> simp only [decide_eq_true_eq, Bool.false_eq_true] at * <;> omega))
theorem u64w {x : Int} (h0 : 0 ≤ x) (h1 : x < 18446744073709551616) : IntKind.u64.wrap x = x := by
 unfold IntKind.wrap
 simp [IntKind.bits, IntKind.signed]
 omega
theorem hdW_range {w : Int} (h : inW w) : 0 ≤ w % 16 ∧ w % 16 < 16 ∧ 0 ≤ w / 16 % 65536 ∧ w / 16 % 65536 < 65536 ∧ 0 ≤ w / 1048576 ∧ w / 1048576 < 17592186044416 := by
 obtain ⟨h0, h1⟩ := h
 omega
theorem fdiv_shr (w : Int) (k : Nat) (hk : k ≤ 64) : Int.fdiv w (2 ^ min (Int.toNat (k : Int)) (IntKind.bits .u64)) = w / ((2 ^ k : Nat) : Int) := by
 have e : min (Int.toNat (k : Int)) (IntKind.bits .u64) = k := by
  simp only [Int.toNat_natCast]
  show min k 64 = k
  omega
 rw [e]
 have : (2 : Int) ^ k = ((2 ^ k : Nat) : Int) := by simp
 rw [this]
 exact Int.fdiv_eq_ediv_of_nonneg _ (Int.natCast_nonneg _)
theorem sh4 (w : Int) : Int.fdiv w (2 ^ min (Int.toNat (4 : Int)) (IntKind.bits .u64)) = w / 16 := fdiv_shr w 4 (by omega)
theorem sh20 (w : Int) : Int.fdiv w (2 ^ min (Int.toNat (20 : Int)) (IntKind.bits .u64)) = w / 1048576 := fdiv_shr w 20 (by omega)
theorem sh63 (w : Int) : Int.fdiv w (2 ^ min (Int.toNat (63 : Int)) (IntKind.bits .u64)) = w / 9223372036854775808 := fdiv_shr w 63 (by omega)
def vHd (h : Hd) : Value := .agg #[.int .i64 h.1, .int .i64 h.2.1, .int .i64 h.2.2]
def s182 : Spec := fun args m Q => ∃ w : Int, args = [.int .u64 w] ∧ inW w ∧ Q (.tuple #[vHd (readH w).1, .bool (readH w).2]) m
def s172 : Spec := s182
theorem f182 (t : Tab) (h104 : look t 104 = s104) : Mt t s182 kp182 Tryz.f182 := by
 rintro args m Q ⟨w, rfl, hw, h⟩
 rw [e182]
 obtain ⟨a1, a2, a3, a4, a5, a6⟩ := hdW_range hw
 have m1 := and_mask (w := w) (k := 4) (M := 15) (by rfl) (by omega) hw.1 hw.2
 have m2' := and_mask (w := w / 16) (k := 16) (M := 65535) (by rfl) (by omega) (by omega) (by have := hw.2; omega)
 refine newA_intro fun g1 m2 hg1 e2 hb1 hle2 => ⟨by omega, by omega, newA_intro fun g3 m4 hg3 e4 hb3 hle4 => ?_⟩
 rw [sh4, sh20]
 rw [show (15 : Int) = ((15 : Nat) : Int) by rfl, show (65535 : Int) = ((65535 : Nat) : Int) by rfl, m1, m2', show ((2 ^ 4 : Nat) : Int) = 16 by rfl, show ((2 ^ 16 : Nat) : Int) = 65536 by rfl, w64 (by omega) (by omega), w64 (by omega) (by omega), w64 (by omega) (by omega)]
 refine sto (c := #[.int .i64 0, .int .i64 0, .int .i64 0]) (t := 33) hb3 rfl (by simp) fun m5 e5 h5 hne5 => ?_
 have h5 : m5 g3 = some (.cells #[.int .i64 (w % 16), .int .i64 (w / 16 % 65536), .int .i64 (w / 1048576)] 33 (0, 0)) := h5
 have n13 : g1 ≠ g3 := ne_of_none hg3 hb1
 have b1 : m5 g1 = some (.cells #[.int .i64 0, .int .i64 0, .int .i64 0] 33 (0, 0)) := by rw [hne5 _ n13]; exact hle4 _ _ hb1
 have l5 : Mem.le m m5 := le_other (Mem.le_trans hle2 hle4) (le_none hle2 hg3) hne5
 refine ⟨_, cO h5 0, _, cO h5 1, _, cO h5 2, via h104 ⟨_, _, _, rfl, a3, _, rfl, ?_⟩⟩
 have hk : hdOk (w % 16) (w / 16 % 65536) (w / 1048576) = okW w := rfl
 rw [hk]
 cases hb : okW w with
 | false =>
  rw [if_pos (by decide)]
  refine sto (c := #[.int .i64 0, .int .i64 0, .int .i64 0]) (t := 33) b1 rfl (by simp) fun m15 e15 h15 hne15 => ?_
  have h15 : m15 g1 = some (.cells #[.int .i64 0, .int .i64 0, .int .i64 0] 33 (0, 0)) := h15
  refine ⟨_, cO h15 0, _, cO h15 1, _, cO h15 2, ret_intro (le_other l5 hg1 hne15) ?_⟩
  have e : readH w = ((0, 0, 0), false) := by unfold readH; rw [hb]; rfl
  rw [e] at h
  exact h
 | true =>
  rw [if_neg (by decide)]
  refine ⟨_, cO h5 0, _, cO h5 1, _, cO h5 2, ?_⟩
  refine sto (c := #[.int .i64 0, .int .i64 0, .int .i64 0]) (t := 33) b1 rfl (by simp) fun m15 e15 h15 hne15 => ?_
  have h15 : m15 g1 = some (.cells #[.int .i64 (w % 16), .int .i64 (w / 16 % 65536), .int .i64 (w / 1048576)] 33 (0, 0)) := h15
  refine ⟨_, cO h15 0, _, cO h15 1, _, cO h15 2, ret_intro (le_other l5 hg1 hne15) ?_⟩
  have e : readH w = (hdW w, true) := by unfold readH; rw [hb]; rfl
  rw [e] at h
  exact h
def packH (k s z : Int) : Int := IntKind.u64.wrap (IntKind.u64.wrap (IntKind.u64.wrap k + IntKind.u64.wrap (IntKind.u64.wrap s * 16)) + IntKind.u64.wrap (IntKind.u64.wrap z * 1048576))
def s206 : Spec := fun args m Q => ∃ k s z : Int, args = [.agg #[.int .i64 k, .int .i64 s, .int .i64 z]] ∧ 0 ≤ s ∧ Q (if hdOk k s z then .tuple #[.int .u64 (packH k s z), .bool true] else .tuple #[.int .u64 0, .bool false]) m
theorem f206 (t : Tab) (h23 : look t 23 = s23) : Mt t s206 kp206 Tryz.f206 := by
 rintro args m Q ⟨k, s, z, rfl, h0, h⟩
 rw [e206]
 refine newA_intro fun g1 m2 hg1 e2 hb1 hle2 => ?_
 refine ⟨_, cO hb1 0, _, cO hb1 1, _, cO hb1 2, via h23 ⟨k, s, z, rfl, h0, _, rfl, ?_⟩⟩
 cases hb : hdOk k s z with
 | false => rw [if_pos (by decide)]; rw [hb, if_neg (by decide)] at h; exact ret_intro hle2 h
 | true =>
  rw [if_neg (by decide)]
  rw [hb, if_pos rfl] at h
  exact ⟨_, cO hb1 0, _, cO hb1 1, _, cO hb1 2, ret_intro hle2 h⟩
theorem packH_back {w : Int} (h : inW w) : (hdOk (w % 16) (w / 16 % 65536) (w / 1048576 % 4294967296) && (packH (w % 16) (w / 16 % 65536) (w / 1048576 % 4294967296) == w)) = okW w := by
 obtain ⟨a1, a2, a3, a4, a5, a6⟩ := hdW_range h
 obtain ⟨h0, h1⟩ := h
 have hp : packH (w % 16) (w / 16 % 65536) (w / 1048576 % 4294967296) = w % 16 + w / 16 % 65536 * 16 + w / 1048576 % 4294967296 * 1048576 := by
  unfold packH
  rw [u64w (x := w % 16) (by omega) (by omega), u64w (x := w / 16 % 65536) (by omega) (by omega), u64w (x := w / 1048576 % 4294967296) (by omega) (by omega), u64w (x := w / 16 % 65536 * 16) (by omega) (by omega), u64w (x := w / 1048576 % 4294967296 * 1048576) (by omega) (by omega), u64w (x := w % 16 + w / 16 % 65536 * 16) (by omega) (by omega), u64w (x := w % 16 + w / 16 % 65536 * 16 + w / 1048576 % 4294967296 * 1048576) (by omega) (by omega)]
 rw [hp]
 unfold okW
 by_cases hz : w / 1048576 < 4294967296
 ·have e : w / 1048576 % 4294967296 = w / 1048576 := by omega
  rw [e]
  have e2 : (w % 16 + w / 16 % 65536 * 16 + w / 1048576 * 1048576 == w) = true := by rw [beq_iff_eq]; omega
  rw [e2, Bool.and_true]
 ·have e2 : (w % 16 + w / 16 % 65536 * 16 + w / 1048576 % 4294967296 * 1048576 == w) = false := by rw [beq_eq_false_iff_ne]; omega
  rw [e2, Bool.and_false]
  unfold hdOk
  cases sizeB (w % 16) (w / 16 % 65536) with
  | false => rfl
  | true =>
   cases bornB (w % 16) with
   | true => simp only [Bool.true_and, if_true]; symm; rw [decide_eq_false_iff_not]; omega
   | false => simp only [Bool.true_and, Bool.false_eq_true, if_false]; symm; rw [decide_eq_false_iff_not]; omega
theorem f172 (t : Tab) (h206 : look t 206 = s206) : Mt t s172 kp172 Tryz.f172 := by
 rintro args m Q ⟨w, rfl, hw, h⟩
 rw [e172]
 obtain ⟨a1, a2, a3, a4, a5, a6⟩ := hdW_range hw
 have m1 := and_mask (w := w) (k := 4) (M := 15) (by rfl) (by omega) hw.1 hw.2
 have m2' := and_mask (w := w / 16) (k := 16) (M := 65535) (by rfl) (by omega) (by omega) (by have := hw.2; omega)
 have m3' := and_mask (w := w / 1048576) (k := 32) (M := 4294967295) (by rfl) (by omega) (by omega) (by omega)
 have hpb := packH_back hw
 refine newA_intro fun g1 m2 hg1 e2 hb1 hle2 => ⟨by omega, by omega, newA_intro fun g3 m4 hg3 e4 hb3 hle4 => ?_⟩
 rw [sh4, sh20]
 rw [show (15 : Int) = ((15 : Nat) : Int) by rfl, show (65535 : Int) = ((65535 : Nat) : Int) by rfl, show (4294967295 : Int) = ((4294967295 : Nat) : Int) by rfl, m1, m2', m3', show ((2 ^ 4 : Nat) : Int) = 16 by rfl, show ((2 ^ 16 : Nat) : Int) = 65536 by rfl, show ((2 ^ 32 : Nat) : Int) = 4294967296 by rfl, w64 (x := w % 16) (by omega) (by omega), w64 (x := w / 16 % 65536) (by omega) (by omega), w64 (x := w / 1048576 % 4294967296) (by omega) (by omega)]
 refine sto (c := #[.int .i64 0, .int .i64 0, .int .i64 0]) (t := 33) hb3 rfl (by simp) fun m5 e5 h5 hne5 => ?_
 have h5 : m5 g3 = some (.cells #[.int .i64 (w % 16), .int .i64 (w / 16 % 65536), .int .i64 (w / 1048576 % 4294967296)] 33 (0, 0)) := h5
 have n13 : g1 ≠ g3 := ne_of_none hg3 hb1
 have b1 : m5 g1 = some (.cells #[.int .i64 0, .int .i64 0, .int .i64 0] 33 (0, 0)) := by rw [hne5 _ n13]; exact hle4 _ _ hb1
 have l5 : Mem.le m m5 := le_other (Mem.le_trans hle2 hle4) (le_none hle2 hg3) hne5
 have bad : okW w = false → (stoA m5 ⟨g1, 0, none⟩ [(.int .i64 (0 : Int)), (.int .i64 (0 : Int)), (.int .i64 (0 : Int))] fun m16 => (∃ y17 : Int, (Mem.cell? m16 ⟨g1, 0, none⟩ = some (.int .i64 y17) ∧ (∃ y19 : Int, (Mem.cell? m16 ⟨g1, 1, none⟩ = some (.int .i64 y19) ∧ (∃ y21 : Int, (Mem.cell? m16 ⟨g1, 2, none⟩ = some (.int .i64 y21) ∧ (ret Q (.tuple #[(.agg #[(.int .i64 y17), (.int .i64 y19), (.int .i64 y21)]), (.bool false)]) m16)))))))) := by
  intro hb
  refine sto (c := #[.int .i64 0, .int .i64 0, .int .i64 0]) (t := 33) b1 rfl (by simp) fun m15 e15 h15 hne15 => ?_
  have h15 : m15 g1 = some (.cells #[.int .i64 0, .int .i64 0, .int .i64 0] 33 (0, 0)) := h15
  refine ⟨_, cO h15 0, _, cO h15 1, _, cO h15 2, ret_intro (le_other l5 hg1 hne15) ?_⟩
  have e : readH w = ((0, 0, 0), false) := by unfold readH; rw [hb]; rfl
  rw [e] at h
  exact h
 refine ⟨_, cO h5 0, _, cO h5 1, _, cO h5 2, via h206 ⟨_, _, _, rfl, a3, ?_⟩⟩
 cases hb : hdOk (w % 16) (w / 16 % 65536) (w / 1048576 % 4294967296) with
 | false =>
  rw [if_neg (by decide)]
  refine ⟨_, _, rfl, ?_⟩
  rw [if_pos (by decide)]
  exact bad (by rw [← hpb, hb]; rfl)
 | true =>
  rw [if_pos rfl]
  refine ⟨_, _, rfl, ?_⟩
  rw [if_neg (by decide)]
  rw [hb, Bool.true_and] at hpb
  by_cases he : packH (w % 16) (w / 16 % 65536) (w / 1048576 % 4294967296) = w
  ·rw [if_neg (by simpa using he)]
   have hok : okW w = true := by rw [← hpb, beq_iff_eq]; exact he
   have hz : w / 1048576 % 4294967296 = w / 1048576 := by
    have : w / 1048576 ≤ 1000000000 := by
     unfold okW hdOk at hok
     simp only [Bool.and_eq_true] at hok
     have h2 := hok.2
     split at h2 <;> simp only [decide_eq_true_eq] at h2 <;> omega
    omega
   refine ⟨_, cO h5 0, _, cO h5 1, _, cO h5 2, ?_⟩
   refine sto (c := #[.int .i64 0, .int .i64 0, .int .i64 0]) (t := 33) b1 rfl (by simp) fun m15 e15 h15 hne15 => ?_
   have h15 : m15 g1 = some (.cells #[.int .i64 (w % 16), .int .i64 (w / 16 % 65536), .int .i64 (w / 1048576 % 4294967296)] 33 (0, 0)) := h15
   refine ⟨_, cO h15 0, _, cO h15 1, _, cO h15 2, ret_intro (le_other l5 hg1 hne15) ?_⟩
   have e : readH w = (hdW w, true) := by unfold readH; rw [hok]; rfl
   rw [e] at h
   rw [hz]
   exact h
  ·rw [if_pos (by simpa using he)]
   exact bad (by rw [← hpb, beq_eq_false_iff_ne]; exact he)
def s181 : Spec := fun args m Q => ∃ w : Int, args = [.int .u64 w] ∧ inW w ∧ Q (.tuple #[.int .i64 (fwd w).1, .bool (fwd w).2]) m
def s173 : Spec := s181
theorem f181 (t : Tab) : Mt t s181 kp181 Tryz.f181 := by
 rintro args m Q ⟨w, rfl, hw, h⟩
 rw [e181]
 obtain ⟨h0, h1⟩ := hw
 rw [and_top h0 h1, and_rest h0 h1]
 unfold fwd at h
 by_cases c : w < 9223372036854775808
 ·rw [if_pos c, if_pos (by decide)]
  rw [if_pos (.inl c)] at h
  exact ret_intro (Mem.le_refl _) h
 ·rw [if_neg c, if_neg (by decide)]
  have e : w % 9223372036854775808 = w - 9223372036854775808 := by omega
  rw [e]
  by_cases c2 : w - 9223372036854775808 > 2147483647
  ·rw [if_pos (by simpa using c2)]
   rw [if_pos (.inr c2)] at h
   exact ret_intro (Mem.le_refl _) h
  ·rw [if_neg (by simpa using c2), w64 (by omega) (by omega)]
   rw [if_neg (by omega)] at h
   exact ret_intro (Mem.le_refl _) h
theorem f173 (t : Tab) : Mt t s173 kp173 Tryz.f173 := by
 rintro args m Q ⟨w, rfl, hw, h⟩
 rw [e173]
 obtain ⟨h0, h1⟩ := hw
 have m1 := and_mask (w := w) (k := 63) (M := 9223372036854775807) (by rfl) (by omega) h0 h1
 refine ⟨by omega, ?_⟩
 rw [sh63, show (9223372036854775807 : Int) = ((9223372036854775807 : Nat) : Int) by rfl, m1, show ((2 ^ 63 : Nat) : Int) = 9223372036854775808 by rfl]
 unfold fwd at h
 by_cases c : w < 9223372036854775808
 ·have e : w / 9223372036854775808 = 0 := by omega
  rw [e, if_pos (by decide)]
  rw [if_pos (.inl c)] at h
  exact ret_intro (Mem.le_refl _) h
 ·have e1 : w / 9223372036854775808 = 1 := by omega
  rw [e1, if_neg (by decide)]
  have e : w % 9223372036854775808 = w - 9223372036854775808 := by omega
  rw [e]
  by_cases c2 : w - 9223372036854775808 > 2147483647
  ·rw [if_pos (by simpa using c2)]
   rw [if_pos (.inr c2)] at h
   exact ret_intro (Mem.le_refl _) h
  ·rw [if_neg (by simpa using c2), w64 (by omega) (by omega)]
   rw [if_neg (by omega)] at h
   exact ret_intro (Mem.le_refl _) h
abbrev Vl := Int × Int
def vVl (v : Vl) : Value := .agg #[.int .i64 v.1, .int .i64 v.2]
def s148 : Spec := fun args m Q => ∃ v : Vl, args = [vVl v] ∧ Q (.bool (isRefB v)) m
def s110 : Spec := s148
theorem f148 (t : Tab) (h207 : look t 207 = s207) : Mt t s148 kp148 Tryz.f148 := by
 rintro args m Q ⟨⟨a, b⟩, rfl, h⟩
 show FA _ _ _ _ [.agg #[.int .i64 a, .int .i64 b]] m Q
 rw [e148]
 refine newA_intro fun g1 m2 hg1 e2 hb1 hle2 => ⟨_, cO hb1 0, via h207 ⟨_, rfl, _, rfl, ret_intro hle2 h⟩⟩
theorem f110 (t : Tab) (h180 : look t 180 = s180) : Mt t s110 kp110 Tryz.f110 := by
 rintro args m Q ⟨⟨a, b⟩, rfl, h⟩
 show FA _ _ _ _ [.agg #[.int .i64 a, .int .i64 b]] m Q
 rw [e110]
 refine newA_intro fun g1 m2 hg1 e2 hb1 hle2 => ⟨_, cO hb1 0, via h180 ⟨_, rfl, _, rfl, ret_intro hle2 h⟩⟩
def s187 : Spec := fun args m Q => ∃ v : Vl, args = [vVl v] ∧ Q (.bool (valOkB v)) m
def s92 : Spec := s187
theorem f187 (t : Tab) (h207 : look t 207 = s207) (h94 : look t 94 = s94) : Mt t s187 kp187 Tryz.f187 := by
 rintro args m Q ⟨⟨a, b⟩, rfl, h⟩
 show FA _ _ _ _ [.agg #[.int .i64 a, .int .i64 b]] m Q
 rw [e187]
 refine newA_intro fun g1 m2 hg1 e2 hb1 hle2 => ?_
 simp only [ci, cs, cb, hi, hs, hb, cO hb1, h94, s94, s103, h207, s207, exists_and_left, exists_eq_left', List.getElem?_toArray, List.getElem?_cons_zero, List.getElem?_cons_succ, Option.some.injEq, Value.slice.injEq, Value.int.injEq, Value.bool.injEq, Value.string.injEq, Value.agg.injEq, Value.tuple.injEq, Value.pointer.injEq, List.cons.injEq, Array.mk.injEq, and_assoc, true_and, and_true, exists_eq_left, ite_ret, ite_bool]
 refine ret_bool hle2 h ?_
 unfold valOkB isRefB
 (apply Bool.eq_iff_iff.2; simp only [beq_iff_eq, decide_eq_true_eq, bne_iff_ne]; repeat' split) <;> (simp only [beq_iff_eq, bne_iff_ne, ne_eq, decide_eq_true_eq, Bool.and_eq_true, Bool.not_eq_true', iff_true, true_iff, iff_false, false_iff, Bool.false_eq_true, and_false, false_and, and_true, true_and, not_false_iff, not_true, Bool.or_eq_true, if_true, if_false] at *) <;> (first | done | omega | (split <;> simp only [decide_eq_true_eq, Bool.false_eq_true] at * <;> omega))
theorem f92 (t : Tab) (h110 : look t 110 = s110) (h103 : look t 103 = s103) : Mt t s92 kp92 Tryz.f92 := by
 rintro args m Q ⟨⟨a, b⟩, rfl, h⟩
 show FA _ _ _ _ [.agg #[.int .i64 a, .int .i64 b]] m Q
 rw [e92]
 refine newA_intro fun g1 m2 hg1 e2 hb1 hle2 => ?_
 have hI : ∀ (K : Value → Mem → Prop) (M : Mem), look t 110 [.agg #[.int .i64 a, .int .i64 b]] M K = K (.bool (isRefB (a, b))) M := by
  intro K M
  rw [h110]
  apply propext
  exact ⟨fun ⟨⟨x, y⟩, e, k⟩ => by
   have e : Value.agg #[.int .i64 a, .int .i64 b] = vVl (x, y) := by injection e
   simp [vVl] at e
   obtain ⟨rfl, rfl⟩ := e
   exact k, fun k => ⟨(a, b), rfl, k⟩⟩
 simp only [ci, cs, cb, hi, hs, hb, cO hb1, h103, s103, hI, exists_and_left, exists_eq_left', List.getElem?_toArray, List.getElem?_cons_zero, List.getElem?_cons_succ, Option.some.injEq, Value.slice.injEq, Value.int.injEq, Value.bool.injEq, Value.string.injEq, Value.agg.injEq, Value.tuple.injEq, Value.pointer.injEq, List.cons.injEq, Array.mk.injEq, and_assoc, true_and, and_true, exists_eq_left, ite_ret, ite_bool]
 refine ret_bool hle2 h ?_
 unfold valOkB
 cases isRefB (a, b) <;> (apply Bool.eq_iff_iff.2; simp only [beq_iff_eq, decide_eq_true_eq, bne_iff_ne]; repeat' split) <;> (simp only [beq_iff_eq, bne_iff_ne, ne_eq, decide_eq_true_eq, Bool.and_eq_true, Bool.not_eq_true', iff_true, true_iff, iff_false, false_iff, Bool.false_eq_true, and_false, false_and, and_true, true_and, not_false_iff, not_true, Bool.or_eq_true, if_true, if_false] at *) <;> (first | done | omega | (split <;> simp only [decide_eq_true_eq, Bool.false_eq_true] at * <;> omega))
structure Ar where
 ws : List U64
 semi : Int
 to : Int
 top : Int
 cyc : Bool
 scan : Int
 old : Int
 cop : Int
 ser : Int
 rs : List Vl
def cA (s r : Sl) (a : Ar) : Array Value := #[vs s, .int .i64 a.semi, .int .i64 a.to, .int .i64 a.top, .bool a.cyc, .int .i64 a.scan, .int .i64 a.old, .int .i64 a.cop, .int .i64 a.ser, vs r]
def vA (s r : Sl) (a : Ar) : Value := .agg (cA s r a)
abbrev aG (s r : Sl) (a : Ar) : Value := .agg #[.slice s.a s.n s.c, .int .i64 a.semi, .int .i64 a.to, .int .i64 a.top, .bool a.cyc, .int .i64 a.scan, .int .i64 a.old, .int .i64 a.cop, .int .i64 a.ser, .slice r.a r.n r.c]
abbrev zAr : Array Value := #[.slice none 0 0, .int .i64 0, .int .i64 0, .int .i64 0, .bool false, .int .i64 0, .int .i64 0, .int .i64 0, .int .i64 0, .slice none 0 0]
structure ArAt (m : Mem) (s r : Sl) (a : Ar) : Prop where
 n : a.ws.length = s.n
 w : Rd m s.a a.ws
 k : a.rs.length = r.n
 r : Rd m r.a a.rs
 c : s.n ≤ s.c
theorem ArAt.le {m m' : Mem} {s r : Sl} {a : Ar} (h : ArAt m s r a) (hl : Mem.le m m') : ArAt m' s r a := ⟨h.n, h.w.le hl, h.k, h.r.le hl, h.c⟩
structure Ar.wf (a : Ar) : Prop where
 w : ∀ x ∈ a.ws, inW x.v
 n : a.ws.length ≤ 2 ^ 20
 r : a.rs.length ≤ 2 ^ 20
def gw (ws : List U64) (i : Int) : Int := (ws.getD i.toNat ⟨0⟩).v
theorem gw_in {ws : List U64} (h : ∀ x ∈ ws, inW x.v) (i : Int) : inW (gw ws i) := by
 unfold gw
 rw [List.getD_eq_getElem?_getD]
 cases e : ws[i.toNat]? with
 | none => exact ⟨by decide, by decide⟩
 | some x => exact h x (List.mem_of_getElem? e)
theorem at1 {α : Type} [Enc α] {m : Mem} {a : Option Addr} {l : List α} {i : Int} {n : Nat} {K : Addr → Prop} (z : α) (f : α → Value) (he : ∀ x : α, Enc.e x = [f x]) (h : Rd m a l) (hn : l.length = n) (h0 : 0 ≤ i) (hi : i < n)
  (hK : ∀ ad, a = some ad → (∀ q : Mem, Mem.le m q → q.cell? (ad.add (i.toNat * 1)) = some (f (l.getD i.toNat z))) → K ad) : optA a fun ad => 0 ≤ i ∧ i < (n : Int) ∧ K ad := by
 have hs : Enc.s α = 1 := by rw [← Enc.len z, he]; rfl
 refine idx h hn h0 hi fun ad ha hc => hK ad ha fun q hq => ?_
 have hlt : i.toNat < l.length := by omega
 have := hc 0 (f (l[i.toNat])) (by rw [he]; rfl)
 rw [hs, Nat.add_zero] at this
 rw [List.getD_eq_getElem?_getD, List.getElem?_eq_getElem hlt, Option.getD_some]
 exact cell_le hq this
theorem wd {m : Mem} {a : Option Addr} {ws : List U64} {i : Int} {n : Nat} {K : Addr → Prop} (h : Rd m a ws) (hn : ws.length = n) (h0 : 0 ≤ i) (hi : i < n)
  (hK : ∀ ad, a = some ad → (∀ q : Mem, Mem.le m q → q.cell? (ad.add (i.toNat * 1)) = some (.int .u64 (gw ws i))) → K ad) : optA a fun ad => 0 ≤ i ∧ i < (n : Int) ∧ K ad :=
 at1 (⟨0⟩ : U64) (fun x : U64 => .int .u64 x.v) (fun _ => rfl) h hn h0 hi hK
def valW (ws : List U64) (i : Int) : Vl := (IntKind.i64.wrap (gw ws i), IntKind.i64.wrap (gw ws (i + 1)))
def readV (ws : List U64) (i : Int) : Vl × Bool := if valOkB (valW ws i) then (valW ws i, true) else ((0, 0), false)
def whereW (ws : List U64) (p : Int) : Int := if (fwd (gw ws p)).2 then (fwd (gw ws p)).1 else p
def lookW (ws : List U64) (p : Int) : Hd := (readH (gw ws p)).1
def wordW (ws : List U64) (p i : Int) : Int := IntKind.i64.wrap (gw ws (p + i))
theorem valOk_tag {v : Vl} (h : valOkB v = true) : 0 ≤ v.1 ∧ v.1 ≤ 9 := by
 unfold valOkB isRefB kindT at h
 repeat' split at h
 all_goals first | omega | (simp at h)
theorem wrap_big {x : Int} (h : inW x) (h9 : 0 ≤ IntKind.i64.wrap x ∧ IntKind.i64.wrap x ≤ 9) : x ≤ 9 := by
 obtain ⟨h0, h1⟩ := h
 by_cases c : x ≤ 9223372036854775807
 ·rw [w64 (by omega) c] at h9; exact h9.2
 ·exfalso
  have e : IntKind.i64.wrap x = x - 18446744073709551616 := by
   unfold IntKind.wrap
   simp [IntKind.bits, IntKind.signed]
   omega
  omega
def s112 : Spec := fun args m Q => ∃ (s : Sl) (ws : List U64) (i : Int), args = [vs s, .int .i64 i] ∧ ws.length = s.n ∧ Rd m s.a ws ∧ (∀ x ∈ ws, inW x.v) ∧ ws.length ≤ 2 ^ 20 ∧ 0 ≤ i ∧ i + 1 < ws.length ∧ Q (.tuple #[vVl (readV ws i).1, .bool (readV ws i).2]) m
def s222 : Spec := s112
theorem f112 (t : Tab) (h92 : look t 92 = s92) : Mt t s112 kp112 Tryz.f112 := by
 rintro args m Q ⟨⟨sa, sn, sc⟩, ws, i, rfl, hn, hR, hw, hB, h0, h1, h⟩
 have hn : ws.length = sn := hn
 have hR : Rd m sa ws := hR
 show FA _ _ _ _ [.slice sa sn sc, .int .i64 i] m Q
 rw [e112]
 have hi : IntKind.i64.wrap (i + 1) = i + 1 := w64 (by omega) (by omega)
 have a1 := gw_in hw i
 refine newA_intro fun g1 m2 hg1 e2 hb1 hle2 => wd (hR.le hle2) hn h0 (by omega) fun ad had hd => ⟨_, hd _ (Mem.le_refl _), ?_⟩
 have no : ∀ M : Mem, Mem.le m2 M → M g1 = some (.cells #[.int .i64 0, .int .i64 0] 75 (0, 0)) → valOkB (valW ws i) = false → stoA M ⟨g1, 0, none⟩ [(.int .i64 (0 : Int)), (.int .i64 (0 : Int))] fun m6 => (∃ y7 : Int, (Mem.cell? m6 ⟨g1, 0, none⟩ = some (.int .i64 y7) ∧ (∃ y9 : Int, (Mem.cell? m6 ⟨g1, 1, none⟩ = some (.int .i64 y9) ∧ (ret Q (.tuple #[(.agg #[(.int .i64 y7), (.int .i64 y9)]), (.bool false)]) m6))))) := by
  intro M hM hb hv
  refine sto (c := #[.int .i64 0, .int .i64 0]) (t := 75) hb rfl (by simp) fun m6 e6 h6 hne6 => ?_
  have h6 : m6 g1 = some (.cells #[.int .i64 0, .int .i64 0] 75 (0, 0)) := h6
  refine ⟨_, cO h6 0, _, cO h6 1, ret_intro (le_other (Mem.le_trans hle2 hM) hg1 hne6) ?_⟩
  unfold readV at h
  rw [hv] at h
  exact h
 by_cases c : gw ws i > 15
 ·rw [if_pos (by simpa using c)]
  refine no m2 (Mem.le_refl _) hb1 ?_
  rw [Bool.eq_false_iff]
  intro hv
  have := wrap_big a1 (valOk_tag hv)
  omega
 ·rw [if_neg (by simpa using c)]
  refine ⟨Mem.le m2, Mem.le_refl _, wd (hR.le hle2) hn h0 (by omega) fun ad2 had2 hd2 => ⟨_, hd2, ?_⟩⟩
  rw [hi]
  refine wd (hR.le hle2) hn (by omega) (by omega) fun ad3 had3 hd3 => ⟨_, hd3, newA_intro fun g18 m19 hg18 e19 hb18 hle19 => ⟨hle19, ?_⟩⟩
  refine sto (c := #[.int .i64 0, .int .i64 0]) (t := 75) hb18 rfl (by simp) fun m20 e20 h20 hne20 => ?_
  have h20 : m20 g18 = some (.cells #[.int .i64 (valW ws i).1, .int .i64 (valW ws i).2] 75 (0, 0)) := h20
  refine ⟨_, cO h20 0, _, cO h20 1, via h92 ⟨valW ws i, rfl, _, rfl, ?_⟩⟩
  have n1 : g1 ≠ g18 := ne_of_none hg18 hb1
  have b1 : m20 g1 = some (.cells #[.int .i64 0, .int .i64 0] 75 (0, 0)) := by rw [hne20 _ n1]; exact hle19 _ _ hb1
  have l20 : Mem.le m2 m20 := le_other hle19 hg18 hne20
  cases hv : valOkB (valW ws i) with
  | false =>
   rw [if_pos (by decide)]
   exact no m20 l20 b1 hv
  | true =>
   rw [if_neg (by decide)]
   refine ⟨_, cO h20 0, _, cO h20 1, sto (c := #[.int .i64 0, .int .i64 0]) (t := 75) b1 rfl (by simp) fun m21 e21 h21 hne21 => ?_⟩
   have h21 : m21 g1 = some (.cells #[.int .i64 (valW ws i).1, .int .i64 (valW ws i).2] 75 (0, 0)) := h21
   refine ⟨_, cO h21 0, _, cO h21 1, ret_intro (le_other (Mem.le_trans hle2 l20) hg1 hne21) ?_⟩
   unfold readV at h
   rw [hv] at h
   exact h
theorem f222 (t : Tab) (h187 : look t 187 = s187) (h94 : look t 94 = s94) : Mt t s222 kp222 Tryz.f222 := by
 rintro args m Q ⟨⟨sa, sn, sc⟩, ws, i, rfl, hn, hR, hw, hB, h0, h1, h⟩
 have hn : ws.length = sn := hn
 have hR : Rd m sa ws := hR
 show FA _ _ _ _ [.slice sa sn sc, .int .i64 i] m Q
 rw [e222]
 have hi : IntKind.i64.wrap (i + 1) = i + 1 := w64 (by omega) (by omega)
 have a1 := gw_in hw i
 refine newA_intro fun g1 m2 hg1 e2 hb1 hle2 => via h94 ⟨_, _, _, rfl, _, rfl, ?_⟩
 rw [w64 (x := (sn : Int) - 2) (by omega) (by omega), if_neg (by simp; omega)]
 refine wd (hR.le hle2) hn h0 (by omega) fun ad had hd => ⟨_, hd _ (Mem.le_refl _), ?_⟩
 have no : ∀ M : Mem, Mem.le m2 M → M g1 = some (.cells #[.int .i64 0, .int .i64 0] 75 (0, 0)) → valOkB (valW ws i) = false → stoA M ⟨g1, 0, none⟩ [(.int .i64 (0 : Int)), (.int .i64 (0 : Int))] fun m6 => (∃ y7 : Int, (Mem.cell? m6 ⟨g1, 0, none⟩ = some (.int .i64 y7) ∧ (∃ y9 : Int, (Mem.cell? m6 ⟨g1, 1, none⟩ = some (.int .i64 y9) ∧ (ret Q (.tuple #[(.agg #[(.int .i64 y7), (.int .i64 y9)]), (.bool false)]) m6))))) := by
  intro M hM hb hv
  refine sto (c := #[.int .i64 0, .int .i64 0]) (t := 75) hb rfl (by simp) fun m6 e6 h6 hne6 => ?_
  have h6 : m6 g1 = some (.cells #[.int .i64 0, .int .i64 0] 75 (0, 0)) := h6
  refine ⟨_, cO h6 0, _, cO h6 1, ret_intro (le_other (Mem.le_trans hle2 hM) hg1 hne6) ?_⟩
  unfold s222 at *
  unfold readV at h
  rw [hv] at h
  exact h
 by_cases c : gw ws i > 9
 ·rw [if_pos (by simpa using c)]
  refine no m2 (Mem.le_refl _) hb1 ?_
  rw [Bool.eq_false_iff]
  intro hv
  have := wrap_big a1 (valOk_tag hv)
  omega
 ·rw [if_neg (by simpa using c)]
  refine ⟨Mem.le m2, Mem.le_refl _, wd (hR.le hle2) hn h0 (by omega) fun ad2 had2 hd2 => ⟨_, hd2, ?_⟩⟩
  rw [hi]
  refine wd (hR.le hle2) hn (by omega) (by omega) fun ad3 had3 hd3 => ⟨_, hd3, newA_intro fun g18 m19 hg18 e19 hb18 hle19 => ⟨hle19, ?_⟩⟩
  refine sto (c := #[.int .i64 0, .int .i64 0]) (t := 75) hb18 rfl (by simp) fun m20 e20 h20 hne20 => ?_
  have h20 : m20 g18 = some (.cells #[.int .i64 (valW ws i).1, .int .i64 (valW ws i).2] 75 (0, 0)) := h20
  refine ⟨_, cO h20 0, _, cO h20 1, via h187 ⟨valW ws i, rfl, _, rfl, ?_⟩⟩
  have n1 : g1 ≠ g18 := ne_of_none hg18 hb1
  have b1 : m20 g1 = some (.cells #[.int .i64 0, .int .i64 0] 75 (0, 0)) := by rw [hne20 _ n1]; exact hle19 _ _ hb1
  have l20 : Mem.le m2 m20 := le_other hle19 hg18 hne20
  cases hv : valOkB (valW ws i) with
  | false =>
   rw [if_pos (by decide)]
   exact no m20 l20 b1 hv
  | true =>
   rw [if_neg (by decide)]
   refine ⟨_, cO h20 0, _, cO h20 1, sto (c := #[.int .i64 0, .int .i64 0]) (t := 75) b1 rfl (by simp) fun m21 e21 h21 hne21 => ?_⟩
   have h21 : m21 g1 = some (.cells #[.int .i64 (valW ws i).1, .int .i64 (valW ws i).2] 75 (0, 0)) := h21
   refine ⟨_, cO h21 0, _, cO h21 1, ret_intro (le_other (Mem.le_trans hle2 l20) hg1 hne21) ?_⟩
   unfold readV at h
   rw [hv] at h
   exact h
theorem setAll_ar {wa ra : Option Addr} {wn wc rn rc : Nat} {se to top sc ol co sr : Int} {cy : Bool} : setAll zAr 0 [.slice wa wn wc, .int .i64 se, .int .i64 to, .int .i64 top, .bool cy, .int .i64 sc, .int .i64 ol, .int .i64 co, .int .i64 sr, .slice ra rn rc] = #[.slice wa wn wc, .int .i64 se, .int .i64 to, .int .i64 top, .bool cy, .int .i64 sc, .int .i64 ol, .int .i64 co, .int .i64 sr, .slice ra rn rc] := by kernel_rfl
theorem sto_ar {m : Mem} {g : Nat} {K : Mem → Prop} {wa ra : Option Addr} {wn wc rn rc : Nat} {se to top sc ol co sr : Int} {cy : Bool} (h : m g = some (.cells zAr 27 (0, 0))) (hK : ∀ m', m' = m.upd g (.cells #[.slice wa wn wc, .int .i64 se, .int .i64 to, .int .i64 top, .bool cy, .int .i64 sc, .int .i64 ol, .int .i64 co, .int .i64 sr, .slice ra rn rc] 27 (0, 0)) → m' g = some (.cells #[.slice wa wn wc, .int .i64 se, .int .i64 to, .int .i64 top, .bool cy, .int .i64 sc, .int .i64 ol, .int .i64 co, .int .i64 sr, .slice ra rn rc] 27 (0, 0)) → (∀ b, b ≠ g → m' b = m b) → K m') : stoA m ⟨g, 0, none⟩ [.slice wa wn wc, .int .i64 se, .int .i64 to, .int .i64 top, .bool cy, .int .i64 sc, .int .i64 ol, .int .i64 co, .int .i64 sr, .slice ra rn rc] K := by
 refine sto h rfl (by simp) fun m' e q ne => ?_
 rw [setAll_ar] at e q
 exact hK m' e q ne
def Ptr (m : Mem) (g : Nat) (s r : Sl) (a : Ar) : Prop := m g = some (.cells (cA s r a) 27 (0, 0))
structure Ar.sm (a : Ar) : Prop where
 s0 : 256 ≤ a.semi
 s1 : a.semi ≤ 4000
 t0 : 0 ≤ a.to
 t1 : a.to ≤ 1
 l : (a.ws.length : Int) = 2 * a.semi
theorem mul01 {h s : Int} (h0 : 0 ≤ h) (h1 : h ≤ 1) : h * s = if h = 0 then 0 else s := by
 have : h = 0 ∨ h = 1 := by omega
 rcases this with rfl | rfl <;> simp
def startA (a : Ar) (h : Int) : Int := h * a.semi + 1
def endA (a : Ar) (h : Int) : Int := (h + 1) * a.semi
theorem startA_eq {a : Ar} {h : Int} (h0 : 0 ≤ h) (h1 : h ≤ 1) : startA a h = if h = 0 then 1 else a.semi + 1 := by
 unfold startA
 rw [mul01 h0 h1]
 split <;> omega
theorem endA_eq {a : Ar} {h : Int} (h0 : 0 ≤ h) (h1 : h ≤ 1) : endA a h = if h = 0 then a.semi else 2 * a.semi := by
 unfold endA
 rw [Int.add_mul, mul01 h0 h1]
 split <;> omega
def s105 : Spec := fun args m Q => ∃ (s r : Sl) (a : Ar) (h : Int), args = [vA s r a, .int .i64 h] ∧ 0 ≤ h ∧ h ≤ 1 ∧ 0 ≤ a.semi ∧ a.semi ≤ 4000 ∧ Q (.int .i64 (startA a h)) m
theorem f105 (t : Tab) : Mt t s105 kp105 Tryz.f105 := by
 rintro args m Q ⟨s, r, a, h, rfl, h0, h1, k0, k1, hQ⟩
 show FA _ _ _ _ [aG s r a, .int .i64 h] m Q
 rw [e105]
 have e := mul01 (s := a.semi) h0 h1
 have b : 0 ≤ h * a.semi ∧ h * a.semi ≤ 4000 := by rw [e]; split <;> omega
 refine newA_intro fun g1 m2 hg1 e2 hb1 hle2 => ⟨_, cO hb1 1, ret_int hle2 hQ ?_⟩
 rw [w64 (x := h * a.semi) (by omega) (by omega), w64 (by omega) (by omega)]
 rfl
def s171 : Spec := fun args m Q => ∃ (s r : Sl) (a : Ar), args = [vA s r a] ∧ 0 ≤ a.to ∧ a.to ≤ 1 ∧ 0 ≤ a.semi ∧ a.semi ≤ 4000 ∧ Q (.int .i64 (endA a a.to)) m
theorem endA_b {a : Ar} {h : Int} (h0 : 0 ≤ h) (h1 : h ≤ 1) (k0 : 0 ≤ a.semi) (k1 : a.semi ≤ 4000) : 0 ≤ (h + 1) * a.semi ∧ (h + 1) * a.semi ≤ 8000 := by
 have e := endA_eq (a := a) h0 h1
 unfold endA at e
 rw [e]; split <;> omega
theorem f171 (t : Tab) : Mt t s171 kp171 Tryz.f171 := by
 rintro args m Q ⟨s, r, a, rfl, h0, h1, k0, k1, hQ⟩
 show FA _ _ _ _ [aG s r a] m Q
 rw [e171]
 have b := endA_b h0 h1 k0 k1
 refine newA_intro fun g1 m2 hg1 e2 hb1 hle2 => ⟨_, cO hb1 2, _, cO hb1 1, ret_int hle2 hQ ?_⟩
 rw [w64 (x := a.to + 1) (by omega) (by omega), w64 (by omega) (by omega)]
 rfl
def Val1 (m : Mem) (s r : Sl) (a : Ar) (p : Int) : Prop := ArAt m s r a ∧ a.wf ∧ 0 ≤ p ∧ p < a.ws.length
def s113 : Spec := fun args m Q => ∃ (s r : Sl) (a : Ar) (p : Int), args = [vA s r a, .int .i64 p] ∧ Val1 m s r a p ∧ Q (.int .i64 (whereW a.ws p)) m
theorem f113 (t : Tab) (h173 : look t 173 = s173) : Mt t s113 kp113 Tryz.f113 := by
 rintro args m Q ⟨s, r, a, p, rfl, ⟨hA, hw, h0, h1⟩, hQ⟩
 show FA _ _ _ _ [aG s r a, .int .i64 p] m Q
 rw [e113]
 have hn := hA.n
 refine newA_intro fun g1 m2 hg1 e2 hb1 hle2 => ⟨_, _, _, cO hb1 0, wd (hA.w.le hle2) hA.n h0 (by omega) fun ad had hd => ⟨_, hd _ (Mem.le_refl _), via h173 ⟨_, rfl, gw_in hw.w p, _, _, rfl, ?_⟩⟩⟩
 unfold whereW at hQ
 cases hb : (fwd (gw a.ws p)).2 with
 | false => rw [if_neg (by decide)]; rw [hb] at hQ; exact ret_intro hle2 hQ
 | true => rw [if_pos rfl]; rw [hb] at hQ; exact ret_intro hle2 hQ
def s90 : Spec := fun args m Q => ∃ (s r : Sl) (a : Ar) (p : Int), args = [vA s r a, .int .i64 p] ∧ Val1 m s r a p ∧ Q (vHd (lookW a.ws p)) m
theorem f90 (t : Tab) (h172 : look t 172 = s172) : Mt t s90 kp90 Tryz.f90 := by
 rintro args m Q ⟨s, r, a, p, rfl, ⟨hA, hw, h0, h1⟩, hQ⟩
 show FA _ _ _ _ [aG s r a, .int .i64 p] m Q
 rw [e90]
 have hn := hA.n
 refine newA_intro fun g1 m2 hg1 e2 hb1 hle2 => newA_intro fun g3 m4 hg3 e4 hb3 hle4 => ⟨_, _, _, cO (hle4 _ _ hb1) 0, wd (hA.w.le (Mem.le_trans hle2 hle4)) hA.n h0 (by omega) fun ad had hd => ⟨_, hd _ (Mem.le_refl _), via h172 ⟨_, rfl, gw_in hw.w p, ?_⟩⟩⟩
 refine ⟨_, _, _, _, rfl, newA_intro fun g18 m19 hg18 e19 hb18 hle19 => ?_⟩
 refine sto (c := #[.int .i64 0, .int .i64 0, .int .i64 0]) (t := 33) hb18 rfl (by simp) fun m20 e20 h20 hne20 => ?_
 have h20 : m20 g18 = some (.cells #[.int .i64 (lookW a.ws p).1, .int .i64 (lookW a.ws p).2.1, .int .i64 (lookW a.ws p).2.2] 33 (0, 0)) := h20
 have n1 : g3 ≠ g18 := ne_of_none hg18 hb3
 have b1 : m20 g3 = some (.cells #[.int .i64 0, .int .i64 0, .int .i64 0] 33 (0, 0)) := by rw [hne20 _ n1]; exact hle19 _ _ hb3
 refine ⟨_, cO h20 0, _, cO h20 1, _, cO h20 2, sto (c := #[.int .i64 0, .int .i64 0, .int .i64 0]) (t := 33) b1 rfl (by simp) fun m21 e21 h21 hne21 => ?_⟩
 have h21 : m21 g3 = some (.cells #[.int .i64 (lookW a.ws p).1, .int .i64 (lookW a.ws p).2.1, .int .i64 (lookW a.ws p).2.2] 33 (0, 0)) := h21
 have l4 : Mem.le m2 m20 := le_other (Mem.le_trans hle4 hle19) (le_none hle4 hg18) hne20
 refine ⟨_, cO h21 0, _, cO h21 1, _, cO h21 2, ret_intro (Mem.le_trans hle2 (le_other l4 hg3 hne21)) hQ⟩
def s175 : Spec := fun args m Q => ∃ (s r : Sl) (a : Ar) (p i : Int), args = [vA s r a, .int .i64 p, .int .i64 i] ∧ ArAt m s r a ∧ a.wf ∧ 0 ≤ p ∧ 0 ≤ i ∧ p + i < a.ws.length ∧ Q (.int .i64 (wordW a.ws p i)) m
theorem f175 (t : Tab) : Mt t s175 kp175 Tryz.f175 := by
 rintro args m Q ⟨s, r, a, p, i, rfl, hA, hw, h0, h1, h2, hQ⟩
 show FA _ _ _ _ [aG s r a, .int .i64 p, .int .i64 i] m Q
 rw [e175]
 have hn := hA.n
 have hN := hw.n
 rw [w64 (x := p + i) (by omega) (by omega)]
 exact newA_intro fun g1 m2 hg1 e2 hb1 hle2 => ⟨_, _, _, cO hb1 0, wd (hA.w.le hle2) hA.n (by omega) (by omega) fun ad had hd => ⟨_, hd _ (Mem.le_refl _), ret_intro hle2 hQ⟩⟩
def s95 : Spec := fun args m Q => ∃ (g : Nat) (s r : Sl) (a : Ar) (h : Int), args = [.pointer (some ⟨g, 0, none⟩), .int .i64 h] ∧ Ptr m g s r a ∧ 0 ≤ h ∧ h ≤ 1 ∧ 0 ≤ a.semi ∧ a.semi ≤ 4000 ∧ Q (.int .i64 (startA a h)) m
theorem f95 (t : Tab) : Mt t s95 kp95 Tryz.f95 := by
 rintro args m Q ⟨g, s, r, a, h, rfl, hb1, h0, h1, k0, k1, hQ⟩
 rw [e95]
 have e := mul01 (s := a.semi) h0 h1
 have b : 0 ≤ h * a.semi ∧ h * a.semi ≤ 4000 := by rw [e]; split <;> omega
 refine ⟨_, cO hb1 1, ret_int (Mem.le_refl _) hQ ?_⟩
 rw [w64 (x := h * a.semi) (by omega) (by omega), w64 (by omega) (by omega)]
 rfl
def s96 : Spec := fun args m Q => ∃ (g : Nat) (s r : Sl) (a : Ar) (h : Int), args = [.pointer (some ⟨g, 0, none⟩), .int .i64 h] ∧ Ptr m g s r a ∧ 0 ≤ h ∧ h ≤ 1 ∧ 0 ≤ a.semi ∧ a.semi ≤ 4000 ∧ Q (.int .i64 (endA a h)) m
theorem f96 (t : Tab) : Mt t s96 kp96 Tryz.f96 := by
 rintro args m Q ⟨g, s, r, a, h, rfl, hb1, h0, h1, k0, k1, hQ⟩
 rw [e96]
 have b := endA_b h0 h1 k0 k1
 refine ⟨_, cO hb1 1, ret_int (Mem.le_refl _) hQ ?_⟩
 rw [w64 (x := h + 1) (by omega) (by omega), w64 (by omega) (by omega)]
 rfl
def s98 : Spec := fun args m Q => ∃ (g : Nat) (s r : Sl) (a : Ar), args = [.pointer (some ⟨g, 0, none⟩)] ∧ Ptr m g s r a ∧ 0 ≤ a.to ∧ a.to ≤ 1 ∧ Q (.int .i64 (1 - a.to)) m
theorem f98 (t : Tab) : Mt t s98 kp98 Tryz.f98 := by
 rintro args m Q ⟨g, s, r, a, rfl, hb1, h0, h1, hQ⟩
 rw [e98]
 refine ⟨_, cO hb1 2, ret_int (Mem.le_refl _) hQ ?_⟩
 rw [w64 (x := 1 - a.to) (by omega) (by omega)]
def leftA (a : Ar) : Int := if a.cyc then a.old - startA a (1 - a.to) - a.cop else 0
def s99 : Spec := fun args m Q => ∃ (g : Nat) (s r : Sl) (a : Ar), args = [.pointer (some ⟨g, 0, none⟩)] ∧ Ptr m g s r a ∧ a.sm ∧ (a.cyc = true → 0 ≤ a.old ∧ a.old ≤ 8000 ∧ 0 ≤ a.cop ∧ a.cop ≤ 8000) ∧ Q (.int .i64 (leftA a)) m
theorem f99 (t : Tab) (h98 : look t 98 = s98) (h95 : look t 95 = s95) : Mt t s99 kp99 Tryz.f99 := by
 rintro args m Q ⟨g, s, r, a, rfl, hb1, hs, hc, hQ⟩
 rw [e99]
 unfold leftA at hQ
 refine ⟨_, cO hb1 4, ?_⟩
 cases c : a.cyc with
 | false => rw [if_pos (by decide)]; rw [c] at hQ; exact ret_intro (Mem.le_refl _) hQ
 | true =>
  rw [if_neg (by decide)]
  rw [c, if_pos rfl] at hQ
  obtain ⟨s0, s1, t0, t1, l⟩ := hs
  obtain ⟨o0, o1, c0, c1⟩ := hc c
  have e := startA_eq (a := a) (h := 1 - a.to) (by omega) (by omega)
  have b : 0 ≤ startA a (1 - a.to) ∧ startA a (1 - a.to) ≤ 8000 := by rw [e]; split <;> omega
  refine ⟨Mem.le m, Mem.le_refl _, _, held (cO hb1 6), _, held (cO hb1 7), via h98 ⟨g, s, r, a, rfl, hb1, t0, t1, _, rfl, Mem.le_refl _, via h95 ⟨g, s, r, a, _, rfl, hb1, by omega, by omega, by omega, by omega, _, rfl, Mem.le_refl _, ret_int (Mem.le_refl _) hQ ?_⟩⟩⟩
  rw [w64 (x := a.old - _) (by omega) (by omega), w64 (by omega) (by omega)]
def otherA (a : Ar) (p : Int) : Bool := decide (startA a (1 - a.to) ≤ p ∧ p ≤ endA a (1 - a.to) - 1)
def s218 : Spec := fun args m Q => ∃ (g : Nat) (s r : Sl) (a : Ar) (p : Int), args = [.pointer (some ⟨g, 0, none⟩), .int .i64 p] ∧ Ptr m g s r a ∧ a.sm ∧ Q (.bool (otherA a p)) m
theorem f218 (t : Tab) (h98 : look t 98 = s98) (h95 : look t 95 = s95) (h96 : look t 96 = s96) (h94 : look t 94 = s94) : Mt t s218 kp218 Tryz.f218 := by
 rintro args m Q ⟨g, s, r, a, p, rfl, hb1, ⟨s0, s1, t0, t1, l⟩, hQ⟩
 rw [e218]
 have b := endA_b (a := a) (h := 1 - a.to) (by omega) (by omega) (by omega) (by omega)
 refine via h98 ⟨g, s, r, a, rfl, hb1, t0, t1, _, rfl, via h95 ⟨g, s, r, a, _, rfl, hb1, by omega, by omega, by omega, by omega, _, rfl, via h98 ⟨g, s, r, a, rfl, hb1, t0, t1, _, rfl, via h96 ⟨g, s, r, a, _, rfl, hb1, by omega, by omega, by omega, by omega, _, rfl, ?_⟩⟩⟩⟩
 have e : endA a (1 - a.to) = (1 - a.to + 1) * a.semi := rfl
 rw [w64 (x := endA a (1 - a.to) - 1) (by omega) (by omega)]
 exact via h94 ⟨_, _, _, rfl, _, rfl, ret_intro (Mem.le_refl _) hQ⟩
def placeA (a : Ar) (p : Int) : Int := if otherA a p then whereW a.ws p else p
def s166 : Spec := fun args m Q => ∃ (g : Nat) (s r : Sl) (a : Ar) (v : Vl), args = [.pointer (some ⟨g, 0, none⟩), vVl v] ∧ Ptr m g s r a ∧ ArAt m s r a ∧ a.sm ∧ a.wf ∧ Q (.int .i64 (placeA a v.2)) m
theorem f166 (t : Tab) (h218 : look t 218 = s218) (h181 : look t 181 = s181) : Mt t s166 kp166 Tryz.f166 := by
 rintro args m Q ⟨g, s, r, a, v, rfl, hb1, hA, hs, hw, hQ⟩
 show FA _ _ _ _ [.pointer (some ⟨g, 0, none⟩), .agg #[.int .i64 v.1, .int .i64 v.2]] m Q
 rw [e166]
 refine newA_intro fun g1 m2 hg1 e2 hb2 hle2 => ⟨_, cO hb2 1, via h218 ⟨g, s, r, a, _, rfl, hle2 _ _ hb1, hs, _, rfl, ?_⟩⟩
 unfold placeA at hQ
 cases c : otherA a v.2 with
 | false => rw [if_neg (by decide)]; rw [c] at hQ; exact ⟨_, cO hb2 1, ret_intro hle2 hQ⟩
 | true =>
  rw [if_pos rfl]
  rw [c, if_pos rfl] at hQ
  obtain ⟨s0, s1, t0, t1, l⟩ := hs
  have e := startA_eq (a := a) (h := 1 - a.to) (by omega) (by omega)
  have e' := endA_eq (a := a) (h := 1 - a.to) (by omega) (by omega)
  have hn := hA.n
  have c' : 0 ≤ v.2 ∧ v.2 < s.n := by
   unfold otherA at c
   rw [decide_eq_true_eq, e, e'] at c
   split at c <;> simp_all <;> omega
  refine ⟨Mem.le m2, Mem.le_refl _, _, _, _, held (cO (hle2 _ _ hb1) 0), _, held (cO hb2 1), wd (hA.w.le hle2) hA.n c'.1 c'.2 fun ad had hd => ⟨_, hd, via h181 ⟨_, rfl, gw_in hw.w _, _, _, rfl, Mem.le_refl _, ?_⟩⟩⟩
  unfold whereW at hQ
  cases hf : (fwd (gw a.ws v.2)).2 with
  | false => rw [if_neg (by decide)]; rw [hf] at hQ; exact ⟨_, cO hb2 1, ret_intro hle2 hQ⟩
  | true => rw [if_pos rfl]; rw [hf] at hQ; exact ret_intro hle2 hQ
def Ptr1 (m : Mem) (g : Nat) (s r : Sl) (a : Ar) (p : Int) : Prop := Ptr m g s r a ∧ ArAt m s r a ∧ a.wf ∧ 0 ≤ p ∧ p < a.ws.length
def s102 : Spec := fun args m Q => ∃ (g : Nat) (s r : Sl) (a : Ar) (p : Int), args = [.pointer (some ⟨g, 0, none⟩), .int .i64 p] ∧ Ptr1 m g s r a p ∧ Q (vHd (lookW a.ws p)) m
theorem f102 (t : Tab) (h182 : look t 182 = s182) : Mt t s102 kp102 Tryz.f102 := by
 rintro args m Q ⟨g, s, r, a, p, rfl, ⟨hb1, hA, hw, h0, h1⟩, hQ⟩
 rw [e102]
 have hn := hA.n
 refine newA_intro fun g3 m4 hg3 e4 hb3 hle4 => ⟨_, _, _, cO (hle4 _ _ hb1) 0, wd (hA.w.le hle4) hA.n h0 (by omega) fun ad had hd => ⟨_, hd _ (Mem.le_refl _), via h182 ⟨_, rfl, gw_in hw.w p, ?_⟩⟩⟩
 refine ⟨_, _, _, _, rfl, newA_intro fun g18 m19 hg18 e19 hb18 hle19 => ?_⟩
 refine sto (c := #[.int .i64 0, .int .i64 0, .int .i64 0]) (t := 33) hb18 rfl (by simp) fun m20 e20 h20 hne20 => ?_
 have h20 : m20 g18 = some (.cells #[.int .i64 (lookW a.ws p).1, .int .i64 (lookW a.ws p).2.1, .int .i64 (lookW a.ws p).2.2] 33 (0, 0)) := h20
 have n1 : g3 ≠ g18 := ne_of_none hg18 hb3
 have b1 : m20 g3 = some (.cells #[.int .i64 0, .int .i64 0, .int .i64 0] 33 (0, 0)) := by rw [hne20 _ n1]; exact hle19 _ _ hb3
 refine ⟨_, cO h20 0, _, cO h20 1, _, cO h20 2, sto (c := #[.int .i64 0, .int .i64 0, .int .i64 0]) (t := 33) b1 rfl (by simp) fun m21 e21 h21 hne21 => ?_⟩
 have h21 : m21 g3 = some (.cells #[.int .i64 (lookW a.ws p).1, .int .i64 (lookW a.ws p).2.1, .int .i64 (lookW a.ws p).2.2] 33 (0, 0)) := h21
 have l4 : Mem.le m m20 := le_other (Mem.le_trans hle4 hle19) (le_none hle4 hg18) hne20
 refine ⟨_, cO h21 0, _, cO h21 1, _, cO h21 2, ret_intro (le_other l4 hg3 hne21) hQ⟩
def s167 : Spec := fun args m Q => ∃ (g : Nat) (s r : Sl) (a : Ar) (p : Int), args = [.pointer (some ⟨g, 0, none⟩), .int .i64 p] ∧ Ptr1 m g s r a p ∧ p + 1 < a.ws.length ∧ Q (vVl (valW a.ws p)) m
theorem f167 (t : Tab) : Mt t s167 kp167 Tryz.f167 := by
 rintro args m Q ⟨g, s, r, a, p, rfl, ⟨hb1, hA, hw, h0, h1⟩, h2, hQ⟩
 rw [e167]
 have hn := hA.n
 have hN := hw.n
 rw [w64 (x := p + 1) (by omega) (by omega)]
 refine newA_intro fun g3 m4 hg3 e4 hb3 hle4 => ⟨Mem.le m4, Mem.le_refl _, _, _, _, held (cO (hle4 _ _ hb1) 0), wd (hA.w.le hle4) hA.n h0 (by omega) fun ad had hd => ⟨_, hd, _, _, _, held (cO (hle4 _ _ hb1) 0), wd (hA.w.le hle4) hA.n (by omega) (by omega) fun ad2 had2 hd2 => ⟨_, hd2, ?_⟩⟩⟩
 refine sto (c := #[.int .i64 0, .int .i64 0]) (t := 75) hb3 rfl (by simp) fun m20 e20 h20 hne20 => ?_
 have h20 : m20 g3 = some (.cells #[.int .i64 (valW a.ws p).1, .int .i64 (valW a.ws p).2] 75 (0, 0)) := h20
 exact ⟨_, cO h20 0, _, cO h20 1, ret_intro (le_other hle4 hg3 hne20) hQ⟩
def fromK (k s : Int) : Int := if k = 2 ∨ k = 4 then 2 else if k = 3 ∨ k = 5 then 1 else if k = 6 then 5 else s + 1
def numK (f s : Int) : Nat := ((s - f + 1) / 2).toNat
def everyK (f : Int) (n : Nat) : List Int := (List.range n).map fun (j : Nat) => f + 2 * (j : Int)
def slotsL (k s : Int) : List Int := everyK (fromK k s) (numK (fromK k s) s)
theorem everyK_succ (f : Int) (n : Nat) : everyK f (n + 1) = everyK f n ++ [f + 2 * (n : Int)] := by simp [everyK, List.range_succ]
theorem everyK_len (f : Int) (n : Nat) : (everyK f n).length = n := by simp [everyK]
theorem slots_in {k s x : Int} (hk : sizeB k s = true) (hx : x ∈ slotsL k s) : 1 ≤ x ∧ x + 1 ≤ s := by
 unfold slotsL everyK at hx
 obtain ⟨j, hj, rfl⟩ := List.mem_map.1 hx
 rw [List.mem_range] at hj
 unfold numK at hj
 unfold fromK at *
 repeat' split at *
 all_goals omega
theorem loopS (t : Tab) {Q : Value → Mem → Prop} {sz f : Int} {m : Mem} (hz : 0 ≤ sz ∧ sz ≤ 65535) (hf : 1 ≤ f ∧ f ≤ 65536) (hQ : ∀ (s' : Sl) (M : Mem) (D : List Nat), Mem.le m M → OwnL M s' (everyK f (numK f sz)) D → (∀ b ∈ D, m b = none) → Q (vs s') M) :
  ∀ (d j : Nat), j + d = numK f sz → ∀ (s : Sl) (M : Mem) (D : List Nat), Mem.le m M → OwnL M s (everyK f j) D → (∀ b ∈ D, m b = none) → L111_18 (look t) (d + 1) Q sz s.a s.n s.c (f + 2 * (j : Int)) M ∧ L149_14 (look t) (d + 1) Q sz s.a s.n s.c (f + 2 * (j : Int)) M := by
 intro d
 induction d with
 | zero =>
  intro j hj s M D hle hO hD
  unfold numK at hj
  have c : ¬ f + 2 * (j : Int) < sz := by omega
  have w1 := w64 (x := f + 2 * (j : Int) + 1) (by omega) (by omega)
  have hN : j = numK f sz := by unfold numK; omega
  constructor
  ·rw [l111_18]
   refine ⟨M, Mem.le_refl _, ?_⟩
   rw [w1, if_neg (by simp; omega)]
   exact ret_intro (Mem.le_refl _) (hQ s M D hle (hN ▸ hO) hD)
  ·rw [l149_14]
   refine ⟨M, Mem.le_refl _, ?_⟩
   rw [if_neg (by simp; omega)]
   exact ret_intro (Mem.le_refl _) (hQ s M D hle (hN ▸ hO) hD)
 | succ d ih =>
  intro j hj s M D hle hO hD
  have hj2 : j + 1 + d = ((sz - f + 1) / 2).toNat := by unfold numK at hj; omega
  have c : f + 2 * (j : Int) < sz := by omega
  have w1 := w64 (x := f + 2 * (j : Int) + 1) (by omega) (by omega)
  have w2 : IntKind.i64.wrap (f + 2 * (j : Int) + 2) = f + 2 * ((j + 1 : Nat) : Int) := by rw [w64 (by omega) (by omega)]; omega
  have step : ∀ (K : Option Addr → Nat → Mem → Prop), (∀ (s' : Sl) (M' : Mem) (D' : List Nat), s'.n = s.n + 1 → Mem.le m M' → OwnL M' s' (everyK f (j + 1)) D' → (∀ b ∈ D', m b = none) → K s'.a s'.c M') →
    newA M (.cells #[.int .i64 (f + 2 * (j : Int))] 3 (0, 0)) fun g17 m18 => appR m18 s.a s.n s.c (some ⟨g17, 0, none⟩) 1 1 8 #[.int .i64 0] 3 K := by
   intro K hK
   refine newA_intro fun g m2 hg e hb hle2 => ?_
   refine app_sl (α := Int) (l := everyK f j) (l2 := [f + 2 * (j : Int)]) (D := D) rfl rfl (by decide) (by decide) (by decide) (hO.ext fun b hb' => ?_) rfl (Rd.of_block (spare := []) hb (by rfl)) (by rw [everyK_len]; show j + 1 ≤ 2 ^ 40; omega) fun s' D' M' hsn hO' hoff hfr hnd' => ?_
   ·obtain ⟨o, ho⟩ := hO.live b hb'
    rw [ho, hle2 _ _ ho]
   ·have hD' : ∀ b ∈ D', m b = none := by
     rcases hfr with rfl | hfr
     ·exact hD
     ·exact fun b hb' => le_none (Mem.le_trans hle hle2) (hfr b hb')
    refine hK s' M' D' hsn (le_off (Mem.le_trans hle hle2) hD' hoff) (by rw [everyK_succ]; exact hO') hD'
  constructor
  ·rw [l111_18]
   refine ⟨M, Mem.le_refl _, ?_⟩
   rw [w1, if_pos (by simp; omega)]
   refine step _ fun s' M' D' hsn hle' hO' hD' => ?_
   rw [w2, ← hsn]
   exact (ih (j + 1) (by unfold numK; exact hj2) s' M' D' hle' hO' hD').1
  ·rw [l149_14]
   refine ⟨M, Mem.le_refl _, ?_⟩
   rw [if_pos (by simp; omega)]
   refine step _ fun s' M' D' hsn hle' hO' hD' => ?_
   rw [w2, ← hsn]
   exact (ih (j + 1) (by unfold numK; exact hj2) s' M' D' hle' hO' hD').2
def s111 : Spec := fun args m Q => ∃ (k sz : Int), args = [.int .i64 k, .int .i64 sz] ∧ 0 ≤ sz ∧ sz ≤ 65535 ∧ sizeB k sz = true ∧ ∀ (s' : Sl) (M : Mem) (D : List Nat), Mem.le m M → OwnL M s' (slotsL k sz) D → (∀ b ∈ D, m b = none) → Q (vs s') M
def s149 : Spec := s111
theorem kinds {k s : Int} (h : sizeB k s = true) : k = 1 ∨ k = 2 ∨ k = 3 ∨ k = 4 ∨ k = 5 ∨ k = 6 := by
 unfold sizeB at h
 repeat' split at h
 all_goals first | omega | (simp at h)
theorem f149 (t : Tab) : Mt t s149 kp149 Tryz.f149 := by
 rintro args m Q ⟨k, sz, rfl, h0, h1, hk, hQ⟩
 rw [e149]
 have hz : IntKind.i64.wrap (Int.tdiv sz 2) = sz / 2 := by rw [Int.tdiv_eq_ediv_of_nonneg h0, w64 (by omega) (by omega)]
 rw [hz]
 unfold slotsL fromK at hQ
 have main : ∀ f : Int, 1 ≤ f → f ≤ 65536 → (∀ (s' : Sl) (M : Mem) (D : List Nat), Mem.le m M → OwnL M s' (everyK f (numK f sz)) D → (∀ b ∈ D, m b = none) → Q (vs s') M) →
   ((2 : Int) ≠ 0 ∧ (0 ≤ (0 : Int) ∧ (0 : Int) ≤ sz / 2 ∧ sz / 2 * ((8 : Nat) : Int) ≤ 2 ^ 47 ∧ sz / 2 ≤ 2 ^ 47 ∧ newA m (.cells (zeroRow #[.int .i64 (0 : Int)] (Int.toNat (sz / 2) * 1)) 3 (0, 0)) fun g1 m2 => (∃ k3 : Nat, L149_14 (look t) k3 Q sz ((some ⟨g1, 0, none⟩)) ((Int.toNat (0 : Int))) ((Int.toNat (sz / 2))) f m2))) := by
  intro f f0 f1 hq
  refine ⟨by decide, by omega, by omega, by omega, by omega, newA_intro fun g m2 hg e hb hle => ⟨numK f sz + 1, ?_⟩⟩
  have hO : OwnL m2 ⟨some ⟨g, 0, none⟩, 0, (sz / 2).toNat⟩ (everyK f 0) [g] := by
   refine ⟨rfl, .inr ⟨g, 3, flat Enc.e (List.replicate (sz / 2).toNat (0 : Int)), rfl, rfl, ?_, ?_⟩⟩
   ·rw [hb]
    have := zeroRow_eq (α := Int) 0 (sz / 2).toNat
    exact congrArg some (congrArg (fun c => Obj.cells c 3 (0, 0)) this)
   ·rw [flat_len]; simp [everyK]
  have := (loopS t (m := m) ⟨h0, h1⟩ ⟨f0, f1⟩ hq (numK f sz) 0 (by omega) ⟨some ⟨g, 0, none⟩, 0, (sz / 2).toNat⟩ m2 [g] hle hO (by simpa using hg)).2
  simpa using this
 rcases kinds hk with rfl | rfl | rfl | rfl | rfl | rfl
 ·iterate 5 rw [if_neg (by decide)]
  rw [if_neg (by decide), if_neg (by decide), if_neg (by decide)] at hQ
  have e0 : numK (sz + 1) sz = 0 := by unfold numK; omega
  exact ret_intro (Mem.le_refl _) (hQ ⟨none, 0, 0⟩ m [] (Mem.le_refl _) ⟨by simp [everyK, e0], .inl ⟨rfl, rfl, by rw [e0]; rfl, rfl⟩⟩ (by simp))
 ·rw [if_pos (by decide)]
  exact main 2 (by omega) (by omega) hQ
 ·iterate 2 rw [if_neg (by decide)]
  rw [if_pos (by decide)]
  exact main 1 (by omega) (by omega) hQ
 ·iterate 1 rw [if_neg (by decide)]
  rw [if_pos (by decide)]
  exact main 2 (by omega) (by omega) hQ
 ·iterate 3 rw [if_neg (by decide)]
  rw [if_pos (by decide)]
  exact main 1 (by omega) (by omega) hQ
 ·iterate 4 rw [if_neg (by decide)]
  rw [if_pos (by decide)]
  exact main 5 (by omega) (by omega) hQ
theorem f111 (t : Tab) (h23 : look t 23 = s23) : Mt t s111 kp111 Tryz.f111 := by
 rintro args m Q ⟨k, sz, rfl, h0, h1, hk, hQ⟩
 rw [e111]
 unfold slotsL fromK at hQ
 refine newA_intro fun g1 m2 hg1 e2 hb1 hle2 => newA_intro fun g3 m4 hg3 e4 hb3 hle4 => ?_
 refine sto (c := #[.int .i64 0, .int .i64 0, .int .i64 0]) (t := 33) hb3 rfl (by simp) fun m5 e5 h5 hne5 => ?_
 have h5 : m5 g3 = some (.cells #[.int .i64 k, .int .i64 sz, .int .i64 0] 33 (0, 0)) := h5
 have n13 : g1 ≠ g3 := ne_of_none hg3 hb1
 have b1 : m5 g1 = some (.cells #[] 3 (0, 0)) := by rw [hne5 _ n13]; exact hle4 _ _ hb1
 have hg3' : m g3 = none := le_none hle2 hg3
 have l5 : Mem.le m m5 := le_other (Mem.le_trans hle2 hle4) hg3' hne5
 have main : ∀ f : Int, 1 ≤ f → f ≤ 65536 → (∀ (s' : Sl) (M : Mem) (D : List Nat), Mem.le m M → OwnL M s' (everyK f (numK f sz)) D → (∀ b ∈ D, m b = none) → Q (vs s') M) →
   ∀ M : Mem, Mem.le m M → M g1 = some (.cells #[] 3 (0, 0)) → (∃ k3 : Nat, L111_18 (look t) k3 Q sz ((some ⟨g1, 0, none⟩)) 0 0 f M) := by
  intro f f0 f1 hq M hM hb
  have hO : OwnL M ⟨some ⟨g1, 0, none⟩, 0, 0⟩ (everyK f 0) [g1] := ⟨rfl, .inr ⟨g1, 3, [], rfl, rfl, hb, rfl⟩⟩
  have := (loopS t (m := m) ⟨h0, h1⟩ ⟨f0, f1⟩ hq (numK f sz) 0 (by omega) ⟨some ⟨g1, 0, none⟩, 0, 0⟩ M [g1] hM hO (by simpa using hg1)).1
  exact ⟨_, by simpa using this⟩
 rcases kinds hk with rfl | rfl | rfl | rfl | rfl | rfl
 ·have hh : hdOk 1 sz 0 = true := by unfold hdOk; rw [hk]; decide
  iterate 3 rw [if_neg (by decide)]
  refine ⟨_, cO h5 0, _, cO h5 1, _, cO h5 2, via h23 ⟨_, _, _, rfl, h0, _, rfl, ?_⟩⟩
  rw [hh, if_neg (by decide)]
  iterate 5 rw [if_neg (by decide)]
  rw [w64 (x := sz + 1) (by omega) (by omega)]
  exact main (sz + 1) (by omega) (by omega) hQ _ l5 b1
 ·have hh : hdOk 2 sz 1 = true := by unfold hdOk; rw [hk]; decide
  rw [if_pos (by decide)]
  refine sto (c := #[.int .i64 2, .int .i64 sz, .int .i64 0]) (t := 33) h5 rfl (by simp) fun m6 e6 h6 hne6 => ?_
  have h6 : m6 g3 = some (.cells #[.int .i64 2, .int .i64 sz, .int .i64 1] 33 (0, 0)) := h6
  have b6 : m6 g1 = some (.cells #[] 3 (0, 0)) := by rw [hne6 _ n13]; exact b1
  have l6 : Mem.le m m6 := le_other l5 hg3' hne6
  refine ⟨_, cO h6 0, _, cO h6 1, _, cO h6 2, via h23 ⟨_, _, _, rfl, h0, _, rfl, ?_⟩⟩
  rw [hh, if_neg (by decide)]
  rw [if_pos (by decide)]
  exact main (2) (by omega) (by omega) hQ _ l6 b6
 ·have hh : hdOk 3 sz 0 = true := by unfold hdOk; rw [hk]; decide
  iterate 3 rw [if_neg (by decide)]
  refine ⟨_, cO h5 0, _, cO h5 1, _, cO h5 2, via h23 ⟨_, _, _, rfl, h0, _, rfl, ?_⟩⟩
  rw [hh, if_neg (by decide)]
  iterate 2 rw [if_neg (by decide)]
  rw [if_pos (by decide)]
  exact main (1) (by omega) (by omega) hQ _ l5 b1
 ·have hh : hdOk 4 sz 1 = true := by unfold hdOk; rw [hk]; decide
  iterate 1 rw [if_neg (by decide)]
  rw [if_pos (by decide)]
  refine sto (c := #[.int .i64 4, .int .i64 sz, .int .i64 0]) (t := 33) h5 rfl (by simp) fun m6 e6 h6 hne6 => ?_
  have h6 : m6 g3 = some (.cells #[.int .i64 4, .int .i64 sz, .int .i64 1] 33 (0, 0)) := h6
  have b6 : m6 g1 = some (.cells #[] 3 (0, 0)) := by rw [hne6 _ n13]; exact b1
  have l6 : Mem.le m m6 := le_other l5 hg3' hne6
  refine ⟨_, cO h6 0, _, cO h6 1, _, cO h6 2, via h23 ⟨_, _, _, rfl, h0, _, rfl, ?_⟩⟩
  rw [hh, if_neg (by decide)]
  iterate 1 rw [if_neg (by decide)]
  rw [if_pos (by decide)]
  exact main (2) (by omega) (by omega) hQ _ l6 b6
 ·have hh : hdOk 5 sz 0 = true := by unfold hdOk; rw [hk]; decide
  iterate 3 rw [if_neg (by decide)]
  refine ⟨_, cO h5 0, _, cO h5 1, _, cO h5 2, via h23 ⟨_, _, _, rfl, h0, _, rfl, ?_⟩⟩
  rw [hh, if_neg (by decide)]
  iterate 3 rw [if_neg (by decide)]
  rw [if_pos (by decide)]
  exact main (1) (by omega) (by omega) hQ _ l5 b1
 ·have hh : hdOk 6 sz 1 = true := by unfold hdOk; rw [hk]; decide
  iterate 2 rw [if_neg (by decide)]
  rw [if_pos (by decide)]
  refine sto (c := #[.int .i64 6, .int .i64 sz, .int .i64 0]) (t := 33) h5 rfl (by simp) fun m6 e6 h6 hne6 => ?_
  have h6 : m6 g3 = some (.cells #[.int .i64 6, .int .i64 sz, .int .i64 1] 33 (0, 0)) := h6
  have b6 : m6 g1 = some (.cells #[] 3 (0, 0)) := by rw [hne6 _ n13]; exact b1
  have l6 : Mem.le m m6 := le_other l5 hg3' hne6
  refine ⟨_, cO h6 0, _, cO h6 1, _, cO h6 2, via h23 ⟨_, _, _, rfl, h0, _, rfl, ?_⟩⟩
  rw [hh, if_neg (by decide)]
  iterate 4 rw [if_neg (by decide)]
  rw [if_pos (by decide)]
  exact main (5) (by omega) (by omega) hQ _ l6 b6
def freeP (a : Ar) : Prop := if a.cyc then startA a (1 - a.to) ≤ a.old ∧ a.old ≤ endA a (1 - a.to) ∧ 0 ≤ a.cop ∧ a.cop ≤ a.old - startA a (1 - a.to) ∧ a.top + a.old - startA a (1 - a.to) - a.cop ≤ endA a a.to else a.scan = 0 ∧ a.old = 0 ∧ a.cop = 0
structure NumP (a : Ar) : Prop where
 sm : a.sm
 z0 : 1 ≤ a.ser
 z1 : a.ser ≤ 1000000000
 r : a.rs.length ≤ 24
 p0 : startA a a.to ≤ a.top
 p1 : a.top ≤ endA a a.to
 f : freeP a
open Classical in
noncomputable def numB (a : Ar) : Bool := decide (NumP a)
theorem numB_false {a : Ar} (h : ¬ NumP a) : numB a = false := by unfold numB; simp [h]
theorem numB_true {a : Ar} (h : NumP a) : numB a = true := by unfold numB; simp [h]
theorem start_b {a : Ar} {h : Int} (h0 : 0 ≤ h) (h1 : h ≤ 1) (k0 : 256 ≤ a.semi) (k1 : a.semi ≤ 4000) : 1 ≤ startA a h ∧ startA a h ≤ 4001 := by
 rw [startA_eq h0 h1]; split <;> omega
theorem end_b {a : Ar} {h : Int} (h0 : 0 ≤ h) (h1 : h ≤ 1) (k0 : 256 ≤ a.semi) (k1 : a.semi ≤ 4000) : 256 ≤ endA a h ∧ endA a h ≤ 2 * a.semi := by
 rw [endA_eq h0 h1]; split <;> omega
def s86 : Spec := fun args m Q => ∃ (s r : Sl) (a : Ar), args = [vA s r a] ∧ ArAt m s r a ∧ a.wf ∧ Q (.bool (numB a)) m
theorem f86 (t : Tab) (h103 : look t 103 = s103) (h105 : look t 105 = s105) (h171 : look t 171 = s171) : Mt t s86 kp86 Tryz.f86 := by
 rintro args m Q ⟨s, r, a, rfl, hA, hw, hQ⟩
 show FA _ _ _ _ [aG s r a] m Q
 rw [e86]
 have hn := hA.n
 have hk := hA.k
 have hN := hw.n
 have hR := hw.r
 refine newA_intro fun g1 m2 hg1 e2 hb1 hle2 => ⟨_, cO hb1 1, via h103 ⟨_, _, _, rfl, _, rfl, ?_⟩⟩
 have no : ¬ NumP a → ret Q (.bool false) m2 := fun h => ret_intro hle2 (numB_false h ▸ hQ)
 by_cases c1 : 256 ≤ a.semi ∧ a.semi ≤ 4000
 case neg => rw [decide_eq_false c1, if_pos (by decide)]; exact no fun h => c1 ⟨h.sm.s0, h.sm.s1⟩
 rw [decide_eq_true c1, if_neg (by decide)]
 obtain ⟨c1, c1'⟩ := c1
 refine ⟨_, _, _, cO hb1 0, _, cO hb1 1, ?_⟩
 rw [w64 (x := 2 * a.semi) (by omega) (by omega)]
 by_cases c2 : (s.n : Int) = 2 * a.semi
 case neg => rw [if_pos (by simpa using c2)]; exact no fun h => c2 (by have := h.sm.l; omega)
 rw [if_neg (by simpa using c2)]
 refine ⟨_, cO hb1 2, via h103 ⟨_, _, _, rfl, _, rfl, ?_⟩⟩
 by_cases c3 : 0 ≤ a.to ∧ a.to ≤ 1
 case neg => rw [decide_eq_false c3, if_pos (by decide)]; exact no fun h => c3 ⟨h.sm.t0, h.sm.t1⟩
 rw [decide_eq_true c3, if_neg (by decide)]
 obtain ⟨c3, c3'⟩ := c3
 refine ⟨_, cO hb1 8, via h103 ⟨_, _, _, rfl, _, rfl, ?_⟩⟩
 by_cases c4 : 1 ≤ a.ser ∧ a.ser ≤ 1000000000
 case neg => rw [decide_eq_false c4, if_pos (by decide)]; exact no fun h => c4 ⟨h.z0, h.z1⟩
 rw [decide_eq_true c4, if_neg (by decide)]
 refine ⟨_, _, _, cO hb1 9, ?_⟩
 by_cases c5 : (r.n : Int) > 24
 case pos => rw [if_pos (by simpa using c5)]; exact no fun h => by have := h.r; omega
 rw [if_neg (by simpa using c5)]
 refine ⟨Mem.le m2, Mem.le_refl _, _, held (cO hb1 3), _, _, _, held (cO hb1 0), _, held (cO hb1 1), _, held (cO hb1 2), _, held (cO hb1 3), _, held (cO hb1 4), _, held (cO hb1 5), _, held (cO hb1 6), _, held (cO hb1 7), _, held (cO hb1 8), _, _, _, held (cO hb1 9), _, held (cO hb1 2), _, _, _, held (cO hb1 0), _, held (cO hb1 1), _, held (cO hb1 2), _, held (cO hb1 3), _, held (cO hb1 4), _, held (cO hb1 5), _, held (cO hb1 6), _, held (cO hb1 7), _, held (cO hb1 8), _, _, _, held (cO hb1 9), ?_⟩
 refine via h105 ⟨s, r, a, _, rfl, c3, c3', by omega, c1', _, rfl, Mem.le_refl _, via h171 ⟨s, r, a, rfl, c3, c3', by omega, c1', _, rfl, Mem.le_refl _, via h103 ⟨_, _, _, rfl, _, rfl, Mem.le_refl _, ?_⟩⟩⟩
 have sm : a.sm := ⟨c1, c1', c3, c3', by omega⟩
 by_cases c6 : startA a a.to ≤ a.top ∧ a.top ≤ endA a a.to
 case neg => rw [decide_eq_false c6, if_pos (by decide)]; exact no fun h => c6 ⟨h.p0, h.p1⟩
 rw [decide_eq_true c6, if_neg (by decide)]
 obtain ⟨c6, c6'⟩ := c6
 have yes : freeP a → NumP a := fun h => ⟨sm, c4.1, c4.2, by omega, c6, c6', h⟩
 refine ⟨_, cO hb1 4, ?_⟩
 have b1 := start_b (a := a) (h := a.to) c3 c3' c1 c1'
 have b2 := end_b (a := a) (h := a.to) c3 c3' c1 c1'
 have b3 := start_b (a := a) (h := 1 - a.to) (by omega) (by omega) c1 c1'
 have b4 := end_b (a := a) (h := 1 - a.to) (by omega) (by omega) c1 c1'
 cases hc : a.cyc with
 | false =>
  rw [if_pos (by decide)]
  have ef : freeP a = (a.scan = 0 ∧ a.old = 0 ∧ a.cop = 0) := by unfold freeP; rw [hc]; rfl
  refine ⟨_, cO hb1 5, ?_⟩
  by_cases d1 : a.scan = 0
  case neg => rw [if_neg (by simpa using d1)]; exact no fun h => d1 (ef ▸ h.f).1
  rw [if_pos (by simpa using d1)]
  refine ⟨_, cO hb1 6, ?_⟩
  by_cases d2 : a.old = 0
  case neg => rw [if_neg (by simpa using d2)]; exact no fun h => d2 (ef ▸ h.f).2.1
  rw [if_pos (by simpa using d2)]
  refine ⟨_, cO hb1 7, ?_⟩
  by_cases d3 : a.cop = 0
  case neg => rw [show (a.cop == 0) = false from by simpa using d3]; exact no fun h => d3 (ef ▸ h.f).2.2
  rw [show (a.cop == 0) = true from by simpa using d3]
  exact ret_intro hle2 (numB_true (yes (ef ▸ ⟨d1, d2, d3⟩)) ▸ hQ)
 | true =>
  rw [if_neg (by decide)]
  have ef : freeP a = (startA a (1 - a.to) ≤ a.old ∧ a.old ≤ endA a (1 - a.to) ∧ 0 ≤ a.cop ∧ a.cop ≤ a.old - startA a (1 - a.to) ∧ a.top + a.old - startA a (1 - a.to) - a.cop ≤ endA a a.to) := by unfold freeP; rw [hc]; rfl
  refine ⟨_, _, _, cO hb1 0, _, cO hb1 1, _, cO hb1 2, _, cO hb1 3, _, cO hb1 4, _, cO hb1 5, _, cO hb1 6, _, cO hb1 7, _, cO hb1 8, _, _, _, cO hb1 9, _, cO hb1 2, ?_⟩
  rw [w64 (x := 1 - a.to) (by omega) (by omega)]
  refine via h105 ⟨s, r, a, _, rfl, by omega, by omega, by omega, c1', _, rfl, _, cO hb1 6, _, cO hb1 2, _, cO hb1 1, ?_⟩
  have ee : (2 - a.to) * a.semi = endA a (1 - a.to) := by unfold endA; congr 1; omega
  rw [w64 (x := 2 - a.to) (by omega) (by omega), ee, w64 (x := endA a (1 - a.to)) (by omega) (by omega)]
  refine via h103 ⟨_, _, _, rfl, _, rfl, ?_⟩
  by_cases d1 : startA a (1 - a.to) ≤ a.old ∧ a.old ≤ endA a (1 - a.to)
  case neg => rw [decide_eq_false d1, if_pos (by decide)]; exact no fun h => d1 ⟨(ef ▸ h.f).1, (ef ▸ h.f).2.1⟩
  rw [decide_eq_true d1, if_neg (by decide)]
  refine ⟨_, cO hb1 7, _, cO hb1 6, ?_⟩
  rw [w64 (x := a.old - startA a (1 - a.to)) (by omega) (by omega)]
  refine via h103 ⟨_, _, _, rfl, _, rfl, ?_⟩
  by_cases d2 : 0 ≤ a.cop ∧ a.cop ≤ a.old - startA a (1 - a.to)
  case neg => rw [decide_eq_false d2, if_pos (by decide)]; exact no fun h => d2 ⟨(ef ▸ h.f).2.2.1, (ef ▸ h.f).2.2.2.1⟩
  rw [decide_eq_true d2, if_neg (by decide)]
  refine ⟨Mem.le m2, Mem.le_refl _, _, held (cO hb1 3), _, held (cO hb1 6), _, held (cO hb1 7), _, _, _, held (cO hb1 0), _, held (cO hb1 1), _, held (cO hb1 2), _, held (cO hb1 3), _, held (cO hb1 4), _, held (cO hb1 5), _, held (cO hb1 6), _, held (cO hb1 7), _, held (cO hb1 8), _, _, _, held (cO hb1 9), ?_⟩
  refine via h171 ⟨s, r, a, rfl, c3, c3', by omega, c1', _, rfl, Mem.le_refl _, ?_⟩
  rw [w64 (x := a.top + a.old) (by omega) (by omega), w64 (x := a.top + a.old - startA a (1 - a.to)) (by omega) (by omega), w64 (x := a.top + a.old - startA a (1 - a.to) - a.cop) (by omega) (by omega)]
  by_cases d3 : a.top + a.old - startA a (1 - a.to) - a.cop ≤ endA a a.to
  ·rw [decide_eq_true d3]; exact ret_intro hle2 (numB_true (yes (ef ▸ ⟨d1.1, d1.2, d2.1, d2.2, d3⟩)) ▸ hQ)
  ·rw [decide_eq_false d3]; exact no fun h => d3 (ef ▸ h.f).2.2.2.2
theorem po {α : Type} {x : α} {K : α → Prop} (h : K x) : optA (some x) K := h
def gi (l : List Int) (i : Int) : Int := l.getD i.toNat 0
theorem ri {m : Mem} {a : Option Addr} {l : List Int} {i : Int} {n : Nat} {K : Addr → Prop} (h : Rd m a l) (hn : l.length = n) (h0 : 0 ≤ i) (hi : i < n)
  (hK : ∀ ad, a = some ad → (∀ q : Mem, Mem.le m q → q.cell? (ad.add (i.toNat * 1)) = some (.int .i64 (gi l i))) → K ad) : optA a fun ad => 0 ≤ i ∧ i < (n : Int) ∧ K ad :=
 at1 (0 : Int) (fun x : Int => .int .i64 x) (fun _ => rfl) h hn h0 hi hK
def u8s (l : List Int) : List U8 := l.map U8.mk
theorem u8s_get (l : List Int) (i : Nat) : ((u8s l).getD i ⟨0⟩).v = l.getD i 0 := by
 unfold u8s
 rw [List.getD_eq_getElem?_getD, List.getD_eq_getElem?_getD, List.getElem?_map]
 cases l[i]? <;> rfl
theorem ru {m : Mem} {a : Option Addr} {l : List Int} {i : Int} {n : Nat} {K : Addr → Prop} (h : Rd m a (u8s l)) (hn : l.length = n) (h0 : 0 ≤ i) (hi : i < n)
  (hK : ∀ ad, a = some ad → (∀ q : Mem, Mem.le m q → q.cell? (ad.add (i.toNat * 1)) = some (.int .u8 (gi l i))) → K ad) : optA a fun ad => 0 ≤ i ∧ i < (n : Int) ∧ K ad :=
 at1 (⟨0⟩ : U8) (fun x : U8 => .int .u8 x.v) (fun _ => rfl) h (by unfold u8s; rw [List.length_map]; exact hn) h0 hi fun ad ha hd => hK ad ha fun q hq => by
  have := hd q hq
  rw [u8s_get] at this
  exact this
structure MkOk (a : Ar) (mk : List Int) : Prop where
 n : mk.length = a.ws.length
 v : ∀ p : Int, 0 ≤ p → p < mk.length → gi mk p = 0 ∨ gi mk p = 1 ∨ gi mk p = 2 ∨ gi mk p = 3
 w : ∀ p : Int, 0 ≤ p → p < mk.length → gi mk p ≠ 0 → 0 ≤ whereW a.ws p ∧ whereW a.ws p < a.ws.length ∧ placeA a p = whereW a.ws p
def leadsB (a : Ar) (mk : List Int) (v : Vl) (frm : Int) : Bool :=
 if isRefB v then if mk.length ≤ v.2 then false else
  if gi mk v.2 = 1 ∧ frm ≠ 3 ∨ (gi mk v.2 = 2 ∨ gi mk v.2 = 3) ∧ frm ≠ 1 then decide ((lookW a.ws (whereW a.ws v.2)).1 = kindT v.1) else false else true
theorem ref_pos {v : Vl} (h : valOkB v = true) (hr : isRefB v = true) : 0 < v.2 := by
 unfold valOkB at h
 have hk : kindT v.1 ≠ 0 := by unfold isRefB at hr; simpa using hr
 unfold kindT at hk
 repeat' split at h
 all_goals first | (simp at h; omega) | (rename_i c; simp [c] at hk; done)
def s93 : Spec := fun args m Q => ∃ (s r mkS : Sl) (a : Ar) (mk : List Int) (v : Vl) (frm : Int), args = [vA s r a, vs mkS, vVl v, .int .i64 frm] ∧ ArAt m s r a ∧ a.wf ∧ mkS.n = mk.length ∧ Rd m mkS.a mk ∧ MkOk a mk ∧ valOkB v = true ∧ Q (.bool (leadsB a mk v frm)) m
theorem f93 (t : Tab) (h110 : look t 110 = s110) (h180 : look t 180 = s180) (h113 : look t 113 = s113) (h90 : look t 90 = s90) : Mt t s93 kp93 Tryz.f93 := by
 rintro args m Q ⟨s, r, mkS, a, mk, v, frm, rfl, hA, hw, hmn, hM, hO, hv, hQ⟩
 show FA _ _ _ _ [aG s r a, .slice mkS.a mkS.n mkS.c, .agg #[.int .i64 v.1, .int .i64 v.2], .int .i64 frm] m Q
 rw [e93]
 unfold leadsB at hQ
 refine newA_intro fun g1 m2 hg1 e2 hb1 hle2 => newA_intro fun g3 m4 hg3 e4 hb3 hle4 => ⟨_, cO hb3 0, _, cO hb3 1, via h110 ⟨v, rfl, _, rfl, ?_⟩⟩
 have hb1 := hle4 _ _ hb1
 have hA4 := hA.le (Mem.le_trans hle2 hle4)
 have l4 := Mem.le_trans hle2 hle4
 cases hr : isRefB v with
 | false => rw [if_pos (by decide)]; rw [hr] at hQ; exact ret_intro l4 hQ
 | true =>
  rw [if_neg (by decide)]
  rw [hr, if_pos rfl] at hQ
  have hp := ref_pos hv hr
  refine ⟨_, cO hb3 1, ?_⟩
  by_cases c : (mk.length : Int) ≤ v.2
  ·rw [if_pos (by simp; omega)]; rw [if_pos c] at hQ; exact ret_intro l4 hQ
  ·rw [if_neg (by simp; omega)]; rw [if_neg c] at hQ
   refine ⟨_, cO hb3 1, ri (hM.le l4) hmn.symm (by omega) (by omega) fun ad had hd => ⟨_, hd _ (Mem.le_refl _), ?_⟩⟩
   have hv1 := hO.v v.2 (by omega) (by omega)
   have hw1 := hO.w v.2 (by omega) (by omega)
   have hnn := hO.n
   by_cases c0 : gi mk v.2 = 0
   ·rw [c0]
    iterate 3 rw [if_neg (by decide)]
    rw [if_neg (by omega)] at hQ
    exact ⟨Mem.le m4, Mem.le_refl _, ret_intro l4 hQ⟩
   obtain ⟨w0, w1, w2⟩ := hw1 c0
   have t1 : gi mk v.2 = 1 ∧ frm ≠ 3 ∨ (gi mk v.2 = 2 ∨ gi mk v.2 = 3) ∧ frm ≠ 1 → ret Q (.bool ((lookW a.ws (whereW a.ws v.2)).1 == kindT v.1)) m4 := by
    intro hc
    rw [if_pos hc] at hQ
    exact ret_bool l4 hQ (by apply Bool.eq_iff_iff.2; simp)
   rcases hv1.resolve_left c0 with e | e | e
   ·rw [e] at t1 hQ ⊢
    rw [if_pos (by decide)]
    by_cases d : frm = 3
    ·subst d
     rw [if_neg (by decide)]
     iterate 2 rw [if_neg (by decide)]
     rw [if_neg (by decide)] at hQ
     exact ⟨Mem.le m4, Mem.le_refl _, ret_intro l4 hQ⟩
    ·rw [if_pos (by simpa using d)]
     exact ⟨Mem.le m4, Mem.le_refl _, _, _, _, held (cO hb1 0), _, held (cO hb1 1), _, held (cO hb1 2), _, held (cO hb1 3), _, held (cO hb1 4), _, held (cO hb1 5), _, held (cO hb1 6), _, held (cO hb1 7), _, held (cO hb1 8), _, _, _, held (cO hb1 9), _, _, _, held (cO hb1 0), _, held (cO hb1 1), _, held (cO hb1 2), _, held (cO hb1 3), _, held (cO hb1 4), _, held (cO hb1 5), _, held (cO hb1 6), _, held (cO hb1 7), _, held (cO hb1 8), _, _, _, held (cO hb1 9), _, held (cO hb3 1), _, held (cO hb3 0), via h113 ⟨s, r, a, _, rfl, ⟨hA4, hw, by omega, by omega⟩, _, rfl, Mem.le_refl _, via h90 ⟨s, r, a, _, rfl, ⟨hA4, hw, w0, w1⟩, _, _, _, rfl, Mem.le_refl _, via h180 ⟨_, rfl, _, rfl, Mem.le_refl _, t1 (.inl ⟨rfl, d⟩)⟩⟩⟩⟩
   ·rw [e] at t1 hQ ⊢
    rw [if_neg (by decide), if_pos (by decide)]
    refine ⟨Mem.le m4, Mem.le_refl _, ?_⟩
    by_cases d : frm = 1
    ·subst d
     rw [if_neg (by decide)]
     rw [if_neg (by decide)] at hQ
     exact ret_intro l4 hQ
    ·rw [if_pos (by simpa using d)]
     exact ⟨_, _, _, held (cO hb1 0), _, held (cO hb1 1), _, held (cO hb1 2), _, held (cO hb1 3), _, held (cO hb1 4), _, held (cO hb1 5), _, held (cO hb1 6), _, held (cO hb1 7), _, held (cO hb1 8), _, _, _, held (cO hb1 9), _, _, _, held (cO hb1 0), _, held (cO hb1 1), _, held (cO hb1 2), _, held (cO hb1 3), _, held (cO hb1 4), _, held (cO hb1 5), _, held (cO hb1 6), _, held (cO hb1 7), _, held (cO hb1 8), _, _, _, held (cO hb1 9), _, held (cO hb3 1), _, held (cO hb3 0), via h113 ⟨s, r, a, _, rfl, ⟨hA4, hw, by omega, by omega⟩, _, rfl, Mem.le_refl _, via h90 ⟨s, r, a, _, rfl, ⟨hA4, hw, w0, w1⟩, _, _, _, rfl, Mem.le_refl _, via h180 ⟨_, rfl, _, rfl, Mem.le_refl _, t1 (.inr ⟨.inl rfl, d⟩)⟩⟩⟩⟩
   ·rw [e] at t1 hQ ⊢
    iterate 2 rw [if_neg (by decide)]
    rw [if_pos (by decide)]
    refine ⟨Mem.le m4, Mem.le_refl _, ?_⟩
    by_cases d : frm = 1
    ·subst d
     rw [if_neg (by decide)]
     rw [if_neg (by decide)] at hQ
     exact ret_intro l4 hQ
    ·rw [if_pos (by simpa using d)]
     exact ⟨_, _, _, held (cO hb1 0), _, held (cO hb1 1), _, held (cO hb1 2), _, held (cO hb1 3), _, held (cO hb1 4), _, held (cO hb1 5), _, held (cO hb1 6), _, held (cO hb1 7), _, held (cO hb1 8), _, _, _, held (cO hb1 9), _, _, _, held (cO hb1 0), _, held (cO hb1 1), _, held (cO hb1 2), _, held (cO hb1 3), _, held (cO hb1 4), _, held (cO hb1 5), _, held (cO hb1 6), _, held (cO hb1 7), _, held (cO hb1 8), _, _, _, held (cO hb1 9), _, held (cO hb3 1), _, held (cO hb3 0), via h113 ⟨s, r, a, _, rfl, ⟨hA4, hw, by omega, by omega⟩, _, rfl, Mem.le_refl _, via h90 ⟨s, r, a, _, rfl, ⟨hA4, hw, w0, w1⟩, _, _, _, rfl, Mem.le_refl _, via h180 ⟨_, rfl, _, rfl, Mem.le_refl _, t1 (.inr ⟨.inr rfl, d⟩)⟩⟩⟩⟩
structure Svy (m : Mem) (gs g : Nat) (s r is : Sl) (ms mb : Option Nat) (a : Ar) (mk : List Int) : Prop where
 b : m gs = some (.cells #[.pointer (some ⟨g, 0, none⟩), vs is, .map ms, .map mb] 101 (0, 0))
 p : Ptr m g s r a
 a : ArAt m s r a
 n : mk.length = is.n
 r : Rd m is.a (u8s mk)
theorem Svy.le {m m' : Mem} {gs g : Nat} {s r is : Sl} {ms mb : Option Nat} {a : Ar} {mk : List Int} (h : Svy m gs g s r is ms mb a mk) (hl : Mem.le m m') : Svy m' gs g s r is ms mb a mk := ⟨hl _ _ h.b, hl _ _ h.p, h.a.le hl, h.n, h.r.le hl⟩
def frmA (a : Ar) (mk : List Int) (at_ : Int) : Int := if at_ < 0 then 1 else if gi mk at_ = 1 then if a.cyc = true ∧ a.scan ≤ at_ then 2 else 1 else 3
def s188 : Spec := fun args m Q => ∃ (gs g : Nat) (s r is : Sl) (ms mb : Option Nat) (a : Ar) (mk : List Int) (v : Vl) (at_ : Int), args = [.pointer (some ⟨gs, 0, none⟩), vVl v, .int .i64 at_] ∧ Svy m gs g s r is ms mb a mk ∧ a.sm ∧ a.wf ∧ MkOk a mk ∧ valOkB v = true ∧ (at_ < 0 ∨ 0 ≤ at_ ∧ at_ < mk.length ∧ (gi mk at_ = 1 ∨ gi mk at_ = 2)) ∧ Q (.bool (leadsB a mk v (frmA a mk at_))) m
theorem f188 (t : Tab) (h148 : look t 148 = s148) (h207 : look t 207 = s207) (h166 : look t 166 = s166) (h102 : look t 102 = s102) : Mt t s188 kp188 Tryz.f188 := by
 rintro args m Q ⟨gs, g, s, r, is, ms, mb, a, mk, v, at_, rfl, hS, hsm, hw, hO, hv, hat, hQ⟩
 show FA _ _ _ _ [.pointer (some ⟨gs, 0, none⟩), .agg #[.int .i64 v.1, .int .i64 v.2], .int .i64 at_] m Q
 rw [e188]
 unfold leadsB at hQ
 refine newA_intro fun g1 m2 hg1 e2 hb1 hle2 => ⟨_, cO hb1 0, _, cO hb1 1, via h148 ⟨v, rfl, _, rfl, ?_⟩⟩
 have hS2 := hS.le hle2
 have hs2 := hS2.b
 have hP2 := hS2.p
 have hA2 := hS2.a
 cases hr : isRefB v with
 | false => rw [if_pos (by decide)]; rw [hr] at hQ; exact ret_intro hle2 hQ
 | true =>
  rw [if_neg (by decide)]
  rw [hr, if_pos rfl] at hQ
  have hp := ref_pos hv hr
  have hmn := hS.n
  refine ⟨Mem.le m2, Mem.le_refl _, _, held (cO hb1 1), _, _, _, held (cO hs2 1), ?_⟩
  by_cases c : (mk.length : Int) ≤ v.2
  ·rw [if_pos (by simp; omega)]; rw [if_pos c] at hQ; exact ret_intro hle2 hQ
  ·rw [if_neg (by simp; omega)]; rw [if_neg c] at hQ
   refine ⟨Mem.le m2, Mem.le_refl _, _, _, _, held (cO hs2 1), _, held (cO hb1 1), ru hS2.r hmn (by omega) (by omega) fun ad had hd => ⟨_, hd, ?_⟩⟩
   have hv1 := hO.v v.2 (by omega) (by omega)
   have hw1 := hO.w v.2 (by omega) (by omega)
   have hnn := hO.n
   have t0 : ¬ (gi mk v.2 = 1 ∧ frmA a mk at_ ≠ 3 ∨ (gi mk v.2 = 2 ∨ gi mk v.2 = 3) ∧ frmA a mk at_ ≠ 1) → ret Q (.bool false) m2 := by
    intro hc
    rw [if_neg hc] at hQ
    exact ret_intro hle2 hQ
   have t1 : gi mk v.2 = 1 ∧ frmA a mk at_ ≠ 3 ∨ (gi mk v.2 = 2 ∨ gi mk v.2 = 3) ∧ frmA a mk at_ ≠ 1 → ret Q (.bool ((lookW a.ws (placeA a v.2)).1 == kindT v.1)) m2 := by
    intro hc
    have w2 := (hw1 (by omega)).2.2
    rw [if_pos hc] at hQ
    rw [w2]
    exact ret_bool hle2 hQ (by apply Bool.eq_iff_iff.2; simp)
   generalize hx : gi mk v.2 = x at *
   rcases hat with hneg | ⟨a0, a1, ha⟩
   ·have hf : frmA a mk at_ = 1 := by unfold frmA; rw [if_pos hneg]
    rw [hf] at t0 t1
    rw [if_pos (by simpa using hneg)]
    rcases hv1 with rfl | rfl | rfl | rfl
    ·rw [if_pos (by decide)]; exact t0 (by decide)
    ·obtain ⟨w0, w1, w2⟩ := hw1 (by decide)
     have hc : (1 : Int) = 1 ∧ (1 : Int) ≠ 3 ∨ ((1 : Int) = 2 ∨ (1 : Int) = 3) ∧ (1 : Int) ≠ 1 := by decide
     rw [if_neg (by decide), if_pos (by decide), if_neg (by decide)]
     exact ⟨Mem.le m2, Mem.le_refl _, _, held (cO hs2 0), _, held (cO hs2 0), _, held (cO hb1 0), _, held (cO hb1 1), _, held (cO hb1 0), via h166 ⟨g, s, r, a, v, rfl, hP2, hA2, hsm, hw, _, rfl, Mem.le_refl _, via h102 ⟨g, s, r, a, _, rfl, ⟨hP2, hA2, hw, by rw [w2]; exact w0, by rw [w2]; exact w1⟩, _, _, _, rfl, Mem.le_refl _, via h207 ⟨_, rfl, _, rfl, Mem.le_refl _, t1 hc⟩⟩⟩⟩
    ·rw [if_neg (by decide), if_neg (by decide), if_pos (by decide), if_pos (by simpa using hneg)]; exact t0 (by decide)
    ·rw [if_neg (by decide), if_neg (by decide), if_pos (by decide), if_pos (by simpa using hneg)]; exact t0 (by decide)
   ·rw [if_neg (by simpa using a0)]
    refine ⟨_, _, _, cO hs2 1, ru hS2.r hmn (by omega) (by omega) fun ad2 had2 hd2 => ⟨_, hd2 _ (Mem.le_refl _), ?_⟩⟩
    have hf : frmA a mk at_ = if gi mk at_ = 1 then if a.cyc = true ∧ a.scan ≤ at_ then 2 else 1 else 3 := by unfold frmA; rw [if_neg (by omega)]
    rw [hf] at t0 t1
    generalize hy : gi mk at_ = y at *
    rcases hv1 with rfl | rfl | hx2
    ·rw [if_pos (by decide)]; exact t0 (by rintro (⟨h, _⟩ | ⟨h | h, _⟩) <;> exact absurd h (by decide))
    ·obtain ⟨w0, w1, w2⟩ := hw1 (by decide)
     rw [if_neg (by decide), if_pos (by decide)]
     rcases ha with rfl | rfl
     ·rw [if_neg (by decide), if_neg (by decide)]
      rw [if_pos rfl] at t1
      have hc : (1 : Int) = 1 ∧ (if a.cyc = true ∧ a.scan ≤ at_ then (2 : Int) else 1) ≠ 3 ∨ ((1 : Int) = 2 ∨ (1 : Int) = 3) ∧ (if a.cyc = true ∧ a.scan ≤ at_ then (2 : Int) else 1) ≠ 1 := .inl ⟨rfl, by split <;> decide⟩
      exact ⟨Mem.le m2, Mem.le_refl _, _, held (cO hs2 0), _, held (cO hs2 0), _, held (cO hb1 0), _, held (cO hb1 1), _, held (cO hb1 0), via h166 ⟨g, s, r, a, v, rfl, hP2, hA2, hsm, hw, _, rfl, Mem.le_refl _, via h102 ⟨g, s, r, a, _, rfl, ⟨hP2, hA2, hw, by rw [w2]; exact w0, by rw [w2]; exact w1⟩, _, _, _, rfl, Mem.le_refl _, via h207 ⟨_, rfl, _, rfl, Mem.le_refl _, t1 hc⟩⟩⟩⟩
     ·rw [if_pos (by decide)]
      exact t0 (by rw [if_neg (by decide)]; decide)
    ·have x0 : ¬ x = 0 := by omega
     have x1 : ¬ x = 1 := by omega
     obtain ⟨w0, w1, w2⟩ := hw1 x0
     rw [if_neg (by simpa using x0), if_neg (by simpa using x1), if_pos (by simpa using x1)]
     rcases ha with rfl | rfl
     ·rw [if_pos (by decide), if_neg (by simp; omega)]
      rw [if_pos rfl] at t0 t1
      refine ⟨_, cO hs2 0, po ⟨_, cO hP2 4, ?_⟩⟩
      by_cases hcy : a.cyc = true
      ·rw [if_neg (by rw [hcy]; decide)]
       refine ⟨_, cO hs2 0, po ⟨_, cO hP2 5, ?_⟩⟩
       by_cases hsc : at_ < a.scan
       ·rw [if_pos (by simpa using hsc)]
        exact t0 (by rw [if_neg (by omega)]; omega)
       ·rw [if_neg (by simpa using hsc)]
        have hc : x = 1 ∧ (if a.cyc = true ∧ a.scan ≤ at_ then (2 : Int) else 1) ≠ 3 ∨ (x = 2 ∨ x = 3) ∧ (if a.cyc = true ∧ a.scan ≤ at_ then (2 : Int) else 1) ≠ 1 := .inr ⟨hx2, by rw [if_pos ⟨hcy, by omega⟩]; decide⟩
        exact ⟨Mem.le m2, Mem.le_refl _, _, held (cO hs2 0), _, held (cO hs2 0), _, held (cO hb1 0), _, held (cO hb1 1), _, held (cO hb1 0), via h166 ⟨g, s, r, a, v, rfl, hP2, hA2, hsm, hw, _, rfl, Mem.le_refl _, via h102 ⟨g, s, r, a, _, rfl, ⟨hP2, hA2, hw, by rw [w2]; exact w0, by rw [w2]; exact w1⟩, _, _, _, rfl, Mem.le_refl _, via h207 ⟨_, rfl, _, rfl, Mem.le_refl _, t1 hc⟩⟩⟩⟩
      ·rw [if_pos (by simpa using hcy)]
       exact t0 (by rw [if_neg (fun h => hcy h.1)]; omega)
     ·rw [if_neg (by decide)]
      rw [if_neg (by decide)] at t1
      have hc : x = 1 ∧ (3 : Int) ≠ 3 ∨ (x = 2 ∨ x = 3) ∧ (3 : Int) ≠ 1 := .inr ⟨hx2, by decide⟩
      exact ⟨Mem.le m2, Mem.le_refl _, _, held (cO hs2 0), _, held (cO hs2 0), _, held (cO hb1 0), _, held (cO hb1 1), _, held (cO hb1 0), via h166 ⟨g, s, r, a, v, rfl, hP2, hA2, hsm, hw, _, rfl, Mem.le_refl _, via h102 ⟨g, s, r, a, _, rfl, ⟨hP2, hA2, hw, by rw [w2]; exact w0, by rw [w2]; exact w1⟩, _, _, _, rfl, Mem.le_refl _, via h207 ⟨_, rfl, _, rfl, Mem.le_refl _, t1 hc⟩⟩⟩⟩
theorem wrap_cases {x : Int} (h : inW x) : (x ≤ 9223372036854775807 ∧ IntKind.i64.wrap x = x) ∨ (IntKind.i64.wrap x < 0 ∧ 9223372036854775807 < x) := by
 obtain ⟨h0, h1⟩ := h
 by_cases c : x ≤ 9223372036854775807
 ·exact .inl ⟨c, w64 (by omega) c⟩
 ·refine .inr ⟨?_, by omega⟩
  have e : IntKind.i64.wrap x = x - 18446744073709551616 := by
   unfold IntKind.wrap
   simp [IntKind.bits, IntKind.signed]
   omega
  omega
def topB (n : Int) : Int := ((2 ^ (8 * (n % 8)).toNat : Nat) : Int)
def strP (ws : List U64) (p sz : Int) : Prop := gw ws (p + 1) ≤ 160 ∧ sz = 1 + (gw ws (p + 1) + 7) / 8 ∧ (gw ws (p + 1) % 8 = 0 ∨ gw ws (p + sz) / topB (gw ws (p + 1)) = 0)
instance (ws : List U64) (p sz : Int) : Decidable (strP ws p sz) := by unfold strP; infer_instance
theorem shr8 {n w : Int} (h0 : 0 ≤ n) (h1 : n ≤ 160) : Int.fdiv w (2 ^ min (Int.toNat (8 * (n % 8))) (IntKind.bits .u64)) = w / topB n := by
 have := fdiv_shr w (8 * (n % 8)).toNat (by omega)
 rwa [show (((8 * (n % 8)).toNat : Nat) : Int) = 8 * (n % 8) by omega] at this
def s174 : Spec := fun args m Q => ∃ (s r : Sl) (a : Ar) (p sz : Int), args = [vA s r a, .int .i64 p, .int .i64 sz] ∧ ArAt m s r a ∧ a.wf ∧ 0 ≤ p ∧ 1 ≤ sz ∧ sz ≤ 65535 ∧ p + sz < a.ws.length ∧ Q (.bool (decide (strP a.ws p sz))) m
theorem f174 (t : Tab) (h175 : look t 175 = s175) (h103 : look t 103 = s103) : Mt t s174 kp174 Tryz.f174 := by
 rintro args m Q ⟨s, r, a, p, sz, rfl, hA, hw, p0, z0, z1, pz, hQ⟩
 show FA _ _ _ _ [aG s r a, .int .i64 p, .int .i64 sz] m Q
 rw [e174]
 have hn := hA.n
 have hN := hw.n
 refine newA_intro fun g1 m2 hg1 e2 hb1 hle2 => ⟨_, _, _, cO hb1 0, _, cO hb1 1, _, cO hb1 2, _, cO hb1 3, _, cO hb1 4, _, cO hb1 5, _, cO hb1 6, _, cO hb1 7, _, cO hb1 8, _, _, _, cO hb1 9, via h175 ⟨s, r, a, p, 1, rfl, hA.le hle2, hw, p0, by decide, by omega, _, rfl, via h103 ⟨_, _, _, rfl, _, rfl, ?_⟩⟩⟩
 have no : ¬ strP a.ws p sz → ret Q (.bool false) m2 := fun h => ret_intro hle2 (by rw [decide_eq_false h] at hQ; exact hQ)
 have yes : strP a.ws p sz → ret Q (.bool true) m2 := fun h => ret_intro hle2 (by rw [decide_eq_true h] at hQ; exact hQ)
 have hx := gw_in hw.w (p + 1)
 have hx0 := hx.1
 unfold wordW
 rcases wrap_cases hx with ⟨q1, q2⟩ | ⟨q1, q2⟩
 case inr => rw [decide_eq_false (by omega), if_pos (by decide)]; exact no fun h => by have := h.1; omega
 rw [q2]
 unfold strP at no yes
 generalize gw a.ws (p + 1) = x at *
 by_cases c1 : 0 ≤ x ∧ x ≤ 160
 case neg => rw [decide_eq_false c1, if_pos (by decide)]; exact no fun h => by have := h.1; omega
 rw [decide_eq_true c1, if_neg (by decide)]
 refine ⟨by decide, ?_⟩
 rw [w64 (x := x + 7) (by omega) (by omega), Int.tdiv_eq_ediv_of_nonneg (by omega), w64 (x := (x + 7) / 8) (by omega) (by omega), w64 (x := 1 + (x + 7) / 8) (by omega) (by omega)]
 by_cases c2 : sz = 1 + (x + 7) / 8
 case neg => rw [if_pos (by simpa using c2)]; exact no fun h => c2 h.2.1
 rw [if_neg (by simpa using c2)]
 refine ⟨by decide, ?_⟩
 rw [Int.tmod_eq_emod_of_nonneg (by omega)]
 by_cases c3 : x % 8 = 0
 case pos => rw [if_pos (by simpa using c3)]; exact yes ⟨c1.2, c2, .inl c3⟩
 rw [if_neg (by simpa using c3)]
 refine ⟨_, _, _, cO hb1 0, ?_⟩
 rw [w64 (x := p + sz) (by omega) (by omega), w64 (x := 8 * (x % 8)) (by omega) (by omega), u64w (x := 8 * (x % 8)) (by omega) (by omega)]
 refine wd (hA.w.le hle2) hn (by omega) (by omega) fun ad had hd => ⟨_, hd _ (Mem.le_refl _), by omega, ?_⟩
 rw [shr8 c1.1 c1.2]
 by_cases c4 : gw a.ws (p + sz) / topB x = 0
 ·rw [show (gw a.ws (p + sz) / topB x == 0) = true from by simpa using c4]; exact yes ⟨c1.2, c2, .inr c4⟩
 ·rw [show (gw a.ws (p + sz) / topB x == 0) = false from by simpa using c4]; exact no fun h => h.2.2.elim c3 c4
def s223 : Spec := fun args m Q => ∃ (gs g : Nat) (s r is : Sl) (ms mb : Option Nat) (a : Ar) (mk : List Int) (p sz : Int), args = [.pointer (some ⟨gs, 0, none⟩), .int .i64 p, .int .i64 sz] ∧ Svy m gs g s r is ms mb a mk ∧ a.wf ∧ 0 ≤ p ∧ 1 ≤ sz ∧ sz ≤ 65535 ∧ p + sz < a.ws.length ∧ Q (.bool (decide (strP a.ws p sz))) m
theorem f223 (t : Tab) : Mt t s223 kp223 Tryz.f223 := by
 rintro args m Q ⟨gs, g, s, r, is, ms, mb, a, mk, p, sz, rfl, hS, hw, p0, z0, z1, pz, hQ⟩
 rw [e223]
 have hn := hS.a.n
 have hN := hw.n
 have no : ¬ strP a.ws p sz → ret Q (.bool false) m := fun h => ret_intro (Mem.le_refl _) (by rw [decide_eq_false h] at hQ; exact hQ)
 have yes : strP a.ws p sz → ret Q (.bool true) m := fun h => ret_intro (Mem.le_refl _) (by rw [decide_eq_true h] at hQ; exact hQ)
 have hx := gw_in hw.w (p + 1)
 have hx0 := hx.1
 rw [w64 (x := p + 1) (by omega) (by omega), w64 (x := p + sz) (by omega) (by omega)]
 refine ⟨_, cO hS.b 0, po ⟨_, _, _, cO hS.p 0, wd hS.a.w hn (by omega) (by omega) fun ad had hd => ⟨_, hd _ (Mem.le_refl _), ?_⟩⟩⟩
 unfold strP at no yes
 generalize gw a.ws (p + 1) = x at *
 by_cases c1 : x > 160
 case pos => rw [if_pos (by simpa using c1)]; exact no fun h => by have := h.1; omega
 rw [if_neg (by simpa using c1)]
 refine ⟨by decide, ?_⟩
 rw [w64 (x := x) (by omega) (by omega), w64 (x := x + 7) (by omega) (by omega), Int.tdiv_eq_ediv_of_nonneg (by omega), w64 (x := (x + 7) / 8) (by omega) (by omega), w64 (x := 1 + (x + 7) / 8) (by omega) (by omega)]
 by_cases c2 : sz = 1 + (x + 7) / 8
 case neg => rw [if_pos (by simp; omega)]; exact no fun h => c2 h.2.1
 rw [if_neg (by simp; omega)]
 refine ⟨by decide, ?_⟩
 rw [Int.tmod_eq_emod_of_nonneg (by omega)]
 by_cases c3 : x % 8 = 0
 case pos => rw [if_pos (by simpa using c3)]; exact yes ⟨by omega, c2, .inl c3⟩
 rw [if_neg (by simpa using c3)]
 rw [w64 (x := 8 * (x % 8)) (by omega) (by omega)]
 refine ⟨_, cO hS.b 0, po ⟨_, _, _, cO hS.p 0, wd hS.a.w hn (by omega) (by omega) fun ad had hd => ⟨_, hd _ (Mem.le_refl _), by omega, ?_⟩⟩⟩
 rw [shr8 (by omega) (by omega)]
 by_cases c4 : gw a.ws (p + sz) / topB x = 0
 ·rw [show (gw a.ws (p + sz) / topB x == 0) = true from by simpa using c4]; exact yes ⟨by omega, c2, .inr c4⟩
 ·rw [show (gw a.ws (p + sz) / topB x == 0) = false from by simpa using c4]; exact no fun h => h.2.2.elim c3 c4
def coP (ws : List U64) (p : Int) : Prop := gw ws (p + 1) ≤ 4 ∧ gw ws (p + 2) ≤ 60 ∧ gw ws (p + 3) ≤ gw ws (p + 2) ∧ gw ws (p + 4) ≤ 4095 ∧ (gw ws (p + 5) = 0 ∨ gw ws (p + 5) = 6) ∧ ∀ i : Nat, i < 60 → gw ws (p + 2) ≤ i → gw ws (p + 7 + 2 * (i : Int)) = 0
open Classical in
noncomputable def coB (ws : List U64) (p : Int) : Bool := decide (coP ws p)
theorem coB_no {ws : List U64} {p : Int} (h : ¬ coP ws p) : coB ws p = false := by unfold coB; simp [h]
theorem coB_yes {ws : List U64} {p : Int} (h : coP ws p) : coB ws p = true := by unfold coB; simp [h]
theorem valOk_w {ws : List U64} {i : Int} (hw : ∀ x ∈ ws, inW x.v) (h : valOkB (valW ws i) = true) : (valW ws i).1 = gw ws i ∧ gw ws i ≤ 9 := by
 have a := valOk_tag h
 have b := wrap_big (gw_in hw i) a
 have c := gw_in hw i
 refine ⟨?_, b⟩
 unfold valW
 exact w64 (by have := c.1; omega) (by omega)
def s176 : Spec := fun args m Q => ∃ (s r : Sl) (a : Ar) (p : Int), args = [vA s r a, .int .i64 p] ∧ ArAt m s r a ∧ a.wf ∧ 0 ≤ p ∧ p + 126 < a.ws.length ∧ valOkB (valW a.ws (p + 5)) = true ∧ Q (.bool (coB a.ws p)) m
theorem loopC (t : Tab) {Q : Value → Mem → Prop} {s r : Sl} {a : Ar} {p : Int} {g : Nat} {m : Mem} (hw : a.wf) (p0 : 0 ≤ p) (pz : p + 126 < a.ws.length) (no : ∀ M, Mem.le m M → ¬ coP a.ws p → ret Q (.bool false) M) (yes : ∀ M, Mem.le m M → coP a.ws p → ret Q (.bool true) M)
  (hc : (∀ i : Nat, i < 60 → gw a.ws (p + 2) ≤ i → gw a.ws (p + 7 + 2 * (i : Int)) = 0) → coP a.ws p) : ∀ (d i : Nat), i + d = 60 → (∀ j : Nat, j < i → gw a.ws (p + 2) ≤ j → gw a.ws (p + 7 + 2 * (j : Int)) = 0) → gw a.ws (p + 2) ≤ i → ∀ M : Mem, Mem.le m M → Ptr M g s r a → ArAt M s r a → L176_8 (look t) (d + 1) Q p g (i : Int) M := by
 intro d
 induction d with
 | zero =>
  intro i hi hz _ M hle hP hA
  rw [l176_8]
  refine ⟨M, Mem.le_refl _, ?_⟩
  rw [if_neg (by simp; omega)]
  exact yes M hle (hc fun j hj => hz j (by omega))
 | succ d ih =>
  intro i hi hz ht M hle hP hA
  have hN := hw.n
  have hn := hA.n
  rw [l176_8]
  refine ⟨M, Mem.le_refl _, ?_⟩
  rw [if_pos (by simp; omega)]
  refine ⟨_, _, _, cO hP 0, ?_⟩
  rw [w64 (x := p + 7) (by omega) (by omega), w64 (x := 2 * (i : Int)) (by omega) (by omega), w64 (x := p + 7 + 2 * (i : Int)) (by omega) (by omega), wsucc (n := 60) (by omega) (by decide)]
  refine wd hA.w hn (by omega) (by omega) fun ad had hd => ⟨_, hd _ (Mem.le_refl _), ?_⟩
  by_cases c : gw a.ws (p + 7 + 2 * (i : Int)) = 0
  ·rw [if_neg (by simpa using c)]
   refine ih (i + 1) (by omega) (fun j hj h2 => ?_) (by omega) M hle hP hA
   by_cases e : j = i
   ·rw [e]; exact c
   ·exact hz j (by omega) h2
  ·rw [if_pos (by simpa using c)]
   exact no M hle fun h => c (h.2.2.2.2.2 i (by omega) ht)
theorem f176 (t : Tab) (h175 : look t 175 = s175) (h103 : look t 103 = s103) (h112 : look t 112 = s112) : Mt t s176 kp176 Tryz.f176 := by
 rintro args m Q ⟨s, r, a, p, rfl, hA, hw, p0, pz, hv, hQ⟩
 show FA _ _ _ _ [aG s r a, .int .i64 p] m Q
 rw [e176]
 have hn := hA.n
 have hN := hw.n
 refine newA_intro fun g1 m2 hg1 e2 hb1 hle2 => ?_
 have hA2 := hA.le hle2
 refine ⟨Mem.le m2, Mem.le_refl _, _, _, _, held (cO hb1 0), _, held (cO hb1 1), _, held (cO hb1 2), _, held (cO hb1 3), _, held (cO hb1 4), _, held (cO hb1 5), _, held (cO hb1 6), _, held (cO hb1 7), _, held (cO hb1 8), _, _, _, held (cO hb1 9), _, _, _, held (cO hb1 0), _, held (cO hb1 1), _, held (cO hb1 2), _, held (cO hb1 3), _, held (cO hb1 4), _, held (cO hb1 5), _, held (cO hb1 6), _, held (cO hb1 7), _, held (cO hb1 8), _, _, _, held (cO hb1 9), _, _, _, held (cO hb1 0), _, held (cO hb1 1), _, held (cO hb1 2), _, held (cO hb1 3), _, held (cO hb1 4), _, held (cO hb1 5), _, held (cO hb1 6), _, held (cO hb1 7), _, held (cO hb1 8), _, _, _, held (cO hb1 9), _, _, _, held (cO hb1 0), _, held (cO hb1 1), _, held (cO hb1 2), _, held (cO hb1 3), _, held (cO hb1 4), _, held (cO hb1 5), _, held (cO hb1 6), _, held (cO hb1 7), _, held (cO hb1 8), _, _, _, held (cO hb1 9), via h175 ⟨s, r, a, p, 1, rfl, hA2, hw, p0, by decide, by omega, _, rfl, Mem.le_refl _, via h175 ⟨s, r, a, p, 2, rfl, hA2, hw, p0, by decide, by omega, _, rfl, Mem.le_refl _, via h175 ⟨s, r, a, p, 3, rfl, hA2, hw, p0, by decide, by omega, _, rfl, Mem.le_refl _, via h175 ⟨s, r, a, p, 4, rfl, hA2, hw, p0, by decide, by omega, _, rfl, Mem.le_refl _, via h103 ⟨_, _, _, rfl, _, rfl, ?_⟩⟩⟩⟩⟩⟩
 have no : ∀ M, Mem.le m2 M → ¬ coP a.ws p → ret Q (.bool false) M := fun M hM h => ret_intro (Mem.le_trans hle2 hM) (coB_no h ▸ hQ)
 have yes : ∀ M, Mem.le m2 M → coP a.ws p → ret Q (.bool true) M := fun M hM h => ret_intro (Mem.le_trans hle2 hM) (coB_yes h ▸ hQ)
 have l0 := Mem.le_refl m2
 obtain ⟨v1, v2⟩ := valOk_w hw.w hv
 have x1 := wrap_cases (gw_in hw.w (p + 1))
 have x2 := wrap_cases (gw_in hw.w (p + 2))
 have x3 := wrap_cases (gw_in hw.w (p + 3))
 have x4 := wrap_cases (gw_in hw.w (p + 4))
 have y1 := (gw_in hw.w (p + 1)).1
 have y2 := (gw_in hw.w (p + 2)).1
 have y3 := (gw_in hw.w (p + 3)).1
 have y4 := (gw_in hw.w (p + 4)).1
 unfold wordW
 by_cases c1 : 0 ≤ IntKind.i64.wrap (gw a.ws (p + 1)) ∧ IntKind.i64.wrap (gw a.ws (p + 1)) ≤ 4
 case neg => rw [decide_eq_false c1, if_pos (by decide)]; exact no _ l0 fun h => by have := h.1; omega
 rw [decide_eq_true c1, if_neg (by decide)]
 refine via h103 ⟨_, _, _, rfl, _, rfl, ?_⟩
 by_cases c2 : 0 ≤ IntKind.i64.wrap (gw a.ws (p + 2)) ∧ IntKind.i64.wrap (gw a.ws (p + 2)) ≤ 60
 case neg => rw [decide_eq_false c2, if_pos (by decide)]; exact no _ l0 fun h => by have := h.2.1; omega
 rw [decide_eq_true c2, if_neg (by decide)]
 refine via h103 ⟨_, _, _, rfl, _, rfl, ?_⟩
 by_cases c3 : 0 ≤ IntKind.i64.wrap (gw a.ws (p + 3)) ∧ IntKind.i64.wrap (gw a.ws (p + 3)) ≤ IntKind.i64.wrap (gw a.ws (p + 2))
 case neg => rw [decide_eq_false c3, if_pos (by decide)]; exact no _ l0 fun h => by have := h.2.2.1; have := h.2.1; omega
 rw [decide_eq_true c3, if_neg (by decide)]
 refine via h103 ⟨_, _, _, rfl, _, rfl, ?_⟩
 by_cases c4 : 0 ≤ IntKind.i64.wrap (gw a.ws (p + 4)) ∧ IntKind.i64.wrap (gw a.ws (p + 4)) ≤ 4095
 case neg => rw [decide_eq_false c4, if_pos (by decide)]; exact no _ l0 fun h => by have := h.2.2.2.1; omega
 rw [decide_eq_true c4, if_neg (by decide)]
 refine ⟨_, _, _, cO hb1 0, ?_⟩
 rw [w64 (x := p + 5) (by omega) (by omega)]
 refine via h112 ⟨s, a.ws, _, rfl, hn, hA2.w, hw.w, hN, by omega, by omega, _, _, _, rfl, newA_intro fun g3 m4 hg3 e4 hb3 hle4 => ?_⟩
 have er : readV a.ws (p + 5) = (valW a.ws (p + 5), true) := by unfold readV; rw [hv]; rfl
 rw [er]
 refine sto (c := #[.int .i64 0, .int .i64 0]) (t := 75) hb3 rfl (by simp) fun m5 e5 h5 hne5 => ?_
 have h5 : m5 g3 = some (.cells #[.int .i64 (valW a.ws (p + 5)).1, .int .i64 (valW a.ws (p + 5)).2] 75 (0, 0)) := h5
 have l5 : Mem.le m2 m5 := le_other hle4 hg3 hne5
 have hz : (∀ i : Nat, i < 60 → gw a.ws (p + 2) ≤ i → gw a.ws (p + 7 + 2 * (i : Int)) = 0) → (gw a.ws (p + 5) = 0 ∨ gw a.ws (p + 5) = 6) → coP a.ws p := fun h h' => ⟨by omega, by omega, by omega, by omega, h', h⟩
 have hT : IntKind.i64.wrap (gw a.ws (p + 2)) = ((gw a.ws (p + 2)).toNat : Int) := by omega
 have fin : (gw a.ws (p + 5) = 0 ∨ gw a.ws (p + 5) = 6) → L176_8 (look t) (60 - (gw a.ws (p + 2)).toNat + 1) Q p g1 (IntKind.i64.wrap (gw a.ws (p + 2))) m5 := by
  intro h
  rw [hT]
  exact loopC t (s := s) (r := r) hw p0 pz no yes (fun hh => hz hh h) _ _ (by omega) (fun j hj hj2 => by omega) (by omega) m5 l5 (l5 _ _ hb1) (hA2.le l5)
 refine ⟨_, cO h5 0, ?_⟩
 rw [v1]
 by_cases c5 : gw a.ws (p + 5) = 0
 ·rw [if_neg (by simpa using c5)]
  exact ⟨_, fin (.inl c5)⟩
 ·rw [if_pos (by simpa using c5)]
  refine ⟨_, cO h5 0, ?_⟩
  rw [v1]
  by_cases c6 : gw a.ws (p + 5) = 6
  ·rw [if_neg (by simpa using c6)]
   exact ⟨_, fin (.inr c6)⟩
  ·rw [if_pos (by simpa using c6)]
   exact no _ l5 fun h => h.2.2.2.2.1.elim c5 c6
theorem gw_cut (ws : List U64) (k n : Nat) (j : Int) (h0 : 0 ≤ j) (hj : j < n) : gw ((ws.drop k).take n) j = gw ws (k + j) := by
 unfold gw
 rw [List.getD_eq_getElem?_getD, List.getD_eq_getElem?_getD, List.getElem?_take, if_pos (by omega), List.getElem?_drop]
 congr 2
 congr 1
 omega
theorem slots6 : slotsL 6 126 = everyK 5 61 := by decide
theorem everyK_get {f : Int} {n i : Nat} (h : i < n) : gi (everyK f n) (i : Int) = f + 2 * (i : Int) := by
 unfold gi everyK
 rw [List.getD_eq_getElem?_getD, Int.toNat_natCast, List.getElem?_map, List.getElem?_range h]
 rfl
def s224 : Spec := fun args m Q => ∃ (gs g : Nat) (s r is : Sl) (ms mb : Option Nat) (a : Ar) (mk : List Int) (p : Int), args = [.pointer (some ⟨gs, 0, none⟩), .int .i64 p, .int .i64 126] ∧ Svy m gs g s r is ms mb a mk ∧ a.wf ∧ 0 ≤ p ∧ p + 126 < a.ws.length ∧ (∀ i : Nat, i < 61 → valOkB (valW a.ws (p + (5 + 2 * (i : Int)))) = true) ∧ Q (.bool (coB a.ws p)) m
theorem loopD (t : Tab) (h167 : look t 167 = s167) {Q : Value → Mem → Prop} {s r is : Sl} {ms mb : Option Nat} {a : Ar} {mk : List Int} {p : Int} {gs g : Nat} {m : Mem} {ad : Option Addr} {c c2 : Nat} {sl : Option Addr} (hw : a.wf) (p0 : 0 ≤ p) (pz : p + 126 < a.ws.length)
  (hv : ∀ i : Nat, i < 61 → valOkB (valW a.ws (p + (5 + 2 * (i : Int)))) = true) (h60 : gw a.ws (p + 2) ≤ 60)
  (no : ∀ M, Mem.le m M → ¬ coP a.ws p → ret Q (.bool false) M) (yes : ∀ M, Mem.le m M → coP a.ws p → ret Q (.bool true) M)
  (hc : (gw a.ws (p + 5) = 0 ∨ gw a.ws (p + 5) = 6) → (∀ i : Nat, i < 60 → gw a.ws (p + 2) ≤ i → gw a.ws (p + 7 + 2 * (i : Int)) = 0) → coP a.ws p) :
  ∀ (d i : Nat), i + d = 61 → (∀ j : Nat, j < 60 → j + 1 < i → gw a.ws (p + 2) ≤ j → gw a.ws (p + 7 + 2 * (j : Int)) = 0) → (0 < i → gw a.ws (p + 5) = 0 ∨ gw a.ws (p + 5) = 6) → ∀ M : Mem, Mem.le m M → Svy M gs g s r is ms mb a mk → Rd M ad ((a.ws.drop (p + 1).toNat).take 4) → Rd M sl (everyK 5 61) →
   L224_5 (look t) (d + 1) Q gs p ad 4 c sl 61 c2 61 (i : Int) M := by
 intro d
 induction d with
 | zero =>
  intro i hi hz h5 M hle hS hR hL
  rw [l224_5]
  refine ⟨M, Mem.le_refl _, ?_⟩
  rw [if_neg (by simp; omega)]
  exact yes M hle (hc (h5 (by omega)) fun j hj => hz j hj (by omega))
 | succ d ih =>
  intro i hi hz h5 M hle hS hR hL
  have hN := hw.n
  have hn := hS.a.n
  have y2 := gw_in hw.w (p + 2)
  have hvi := hv i (by omega)
  obtain ⟨v1, v2⟩ := valOk_w hw.w hvi
  rw [l224_5]
  refine ⟨M, Mem.le_refl _, ?_⟩
  rw [if_pos (by simp; omega)]
  refine ri hL (n := 61) (everyK_len _ _) (by omega) (by omega) fun ad1 had1 hd1 => ⟨_, hd1 _ (Mem.le_refl _), ?_⟩
  rw [everyK_get (by omega)]
  refine ⟨_, cO hS.b 0, ?_⟩
  rw [w64 (x := p + (5 + 2 * (i : Int))) (by omega) (by omega), wsucc (n := 61) (by omega) (by decide)]
  refine via h167 ⟨g, s, r, a, _, rfl, ⟨hS.p, hS.a, hw, by omega, by omega⟩, by omega, _, _, rfl, ?_⟩
  rw [v1]
  have next : (gw a.ws (p + 5) = 0 ∨ gw a.ws (p + 5) = 6) → (0 < i → gw a.ws (p + 2) ≤ ((i - 1 : Nat) : Int) → gw a.ws (p + (5 + 2 * (i : Int))) = 0) → L224_5 (look t) (d + 1) Q gs p ad 4 c sl 61 c2 61 ((i + 1 : Nat) : Int) M := by
   intro k1 k2
   refine ih (i + 1) (by omega) (fun j hj h1 h2 => ?_) (fun _ => k1) M hle hS hR hL
   by_cases e : j + 1 = i
   ·have := k2 (by omega) (by rw [show i - 1 = j by omega]; exact h2)
    rwa [show p + (5 + 2 * (i : Int)) = p + 7 + 2 * (j : Int) by omega] at this
   ·exact hz j hj (by omega) h2
  have topv : gw ((a.ws.drop (p + 1).toNat).take 4) 1 = gw a.ws (p + 2) := by
   rw [gw_cut _ _ _ _ (by decide) (by decide)]
   congr 1
   omega
  have wt : IntKind.i64.wrap (gw a.ws (p + 2)) = gw a.ws (p + 2) := w64 (by have := y2.1; omega) (by omega)
  have l4 : ((a.ws.drop (p + 1).toNat).take 4).length = 4 := by simp; omega
  have rest : (gw a.ws (p + 5) = 0 ∨ gw a.ws (p + 5) = 6) → optA ad fun d43 => (0 ≤ (1 : Int) ∧ (1 : Int) < ((4 : Nat) : Int) ∧ (∃ y44 : Int, (Mem.cell? M (d43.add (Int.toNat (1 : Int) * 1)) = some (.int .u64 y44) ∧ if decide ((i : Int) > IntKind.i64.wrap y44) = true then (if (gw a.ws (p + (5 + 2 * (i : Int))) != (0 : Int)) = true then ret Q (.bool false) M else L224_5 (look t) (d + 1) Q gs p ad 4 c sl 61 c2 61 ((i + 1 : Nat) : Int) M) else L224_5 (look t) (d + 1) Q gs p ad 4 c sl 61 c2 61 ((i + 1 : Nat) : Int) M))) := by
   intro k1
   refine wd hR l4 (by decide) (by decide) fun ad2 had2 hd2 => ⟨_, hd2 _ (Mem.le_refl _), ?_⟩
   rw [topv, wt]
   by_cases q : (i : Int) > gw a.ws (p + 2)
   ·rw [if_pos (by simpa using q)]
    by_cases z : gw a.ws (p + (5 + 2 * (i : Int))) = 0
    ·rw [if_neg (by simpa using z)]
     exact next k1 fun _ _ => z
    ·rw [if_pos (by simpa using z)]
     have y0 := y2.1
     refine no M hle fun h => z ?_
     have := h.2.2.2.2.2 (i - 1) (by omega) (by omega)
     rwa [show p + 7 + 2 * ((i - 1 : Nat) : Int) = p + (5 + 2 * (i : Int)) by omega] at this
   ·rw [if_neg (by simpa using q)]
    exact next k1 fun h1 h2 => by omega
  by_cases hi0 : i = 0
  ·subst hi0
   rw [if_pos (by decide)]
   have e5 : gw a.ws (p + (5 + 2 * ((0 : Nat) : Int))) = gw a.ws (p + 5) := rfl
   rw [e5] at rest ⊢
   by_cases c5 : gw a.ws (p + 5) = 0
   ·rw [if_neg (by simpa using c5)]
    exact rest (.inl c5)
   ·rw [if_pos (by simpa using c5)]
    by_cases c6 : gw a.ws (p + 5) = 6
    ·rw [if_neg (by simpa using c6)]
     exact rest (.inr c6)
    ·rw [if_pos (by simpa using c6)]
     exact no _ hle fun h => h.2.2.2.2.1.elim c5 c6
  ·rw [if_neg (by simpa using hi0)]
   exact rest (h5 (by omega))
theorem f224 (t : Tab) (h167 : look t 167 = s167) (h149 : look t 149 = s149) : Mt t s224 kp224 Tryz.f224 := by
 rintro args m Q ⟨gs, g, s, r, is, ms, mb, a, mk, p, rfl, hS, hw, p0, pz, hv, hQ⟩
 rw [e224]
 have hn := hS.a.n
 have hc := hS.a.c
 have hN := hw.n
 have y1 := (gw_in hw.w (p + 1)).1
 have y2 := (gw_in hw.w (p + 2)).1
 rw [w64 (x := p + 5) (by omega) (by omega), w64 (x := p + 1) (by omega) (by omega)]
 refine ⟨_, cO hS.b 0, po ⟨_, _, _, cO hS.p 0, by omega, by omega, by omega, by omega, Mem.le m, Mem.le_refl _, ?_⟩⟩
 have n4 : (p + 5).toNat - (p + 1).toNat = 4 := by omega
 rw [if_neg (by omega), n4]
 have hR : Rd m (Option.map (·.add ((p + 1).toNat * 1)) s.a) ((a.ws.drop (p + 1).toNat).take 4) := ((hS.a.w.drop (p + 1).toNat).take 4)
 have l4 : ((a.ws.drop (p + 1).toNat).take 4).length = 4 := by simp; omega
 have no : ∀ M, Mem.le m M → ¬ coP a.ws p → ret Q (.bool false) M := fun M hM h => ret_intro hM (coB_no h ▸ hQ)
 have yes : ∀ M, Mem.le m M → coP a.ws p → ret Q (.bool true) M := fun M hM h => ret_intro hM (coB_yes h ▸ hQ)
 have l0 := Mem.le_refl m
 have cut : ∀ j : Int, 0 ≤ j → j < 4 → gw ((a.ws.drop (p + 1).toNat).take 4) j = gw a.ws (p + 1 + j) := by
  intro j j0 j4
  rw [gw_cut _ _ _ _ j0 (by omega)]
  congr 1
  omega
 have g0 := cut 0 (by decide) (by decide)
 have g1 := cut 1 (by decide) (by decide)
 have g2 := cut 2 (by decide) (by decide)
 have g3 := cut 3 (by decide) (by decide)
 rw [show p + 1 + 0 = p + 1 by omega] at g0
 rw [show p + 1 + 1 = p + 2 by omega] at g1
 rw [show p + 1 + 2 = p + 3 by omega] at g2
 rw [show p + 1 + 3 = p + 4 by omega] at g3
 refine wd hR l4 (by decide) (by decide) fun ad0 _ hd0 => ⟨_, hd0, ?_⟩
 rw [g0]
 by_cases c1 : gw a.ws (p + 1) > 4
 case pos => rw [if_pos (by simpa using c1)]; exact no _ l0 fun h => by have := h.1; omega
 rw [if_neg (by simpa using c1)]
 refine wd hR l4 (by decide) (by decide) fun ad1 _ hd1 => ⟨_, hd1, ?_⟩
 rw [g1]
 by_cases c2 : gw a.ws (p + 2) > 60
 case pos => rw [if_pos (by simpa using c2)]; exact no _ l0 fun h => by have := h.2.1; omega
 rw [if_neg (by simpa using c2)]
 refine wd hR l4 (by decide) (by decide) fun ad2 _ hd2 => ⟨_, hd2, wd hR l4 (by decide) (by decide) fun ad3 _ hd3 => ⟨_, hd3, ?_⟩⟩
 rw [g1, g2]
 by_cases c3 : gw a.ws (p + 3) > gw a.ws (p + 2)
 case pos => rw [if_pos (by simpa using c3)]; exact no _ l0 fun h => by have := h.2.2.1; omega
 rw [if_neg (by simpa using c3)]
 refine wd hR l4 (by decide) (by decide) fun ad4 _ hd4 => ⟨_, hd4, ?_⟩
 rw [g3]
 by_cases c4 : gw a.ws (p + 4) > 4095
 case pos => rw [if_pos (by simpa using c4)]; exact no _ l0 fun h => by have := h.2.2.2.1; omega
 rw [if_neg (by simpa using c4)]
 refine via h149 ⟨6, 126, rfl, by decide, by decide, by decide, fun s' M D hle hO hD => ?_⟩
 rw [slots6] at hO
 have e61 : s'.n = 61 := by rw [hO.1, everyK_len]
 refine ⟨_, _, _, rfl, 62, ?_⟩
 have hL := hO.rd
 obtain ⟨sa, sn, sc⟩ := s'
 have e61 : sn = 61 := e61
 subst e61
 exact loopD t h167 hw p0 pz hv (by omega) no yes (fun h h' => ⟨by omega, by omega, by omega, by omega, h, h'⟩) 61 0 rfl (fun j hj h1 => by omega) (fun h => by omega) M hle (hS.le hle) (hR.le hle) hL
def ruleB (k t : Int) : Bool := !(t == 8 && k != 2) && !(t == 9 && k == 3) && !(t != 9 && k == 4)
def ruleI (k t : Int) : Bool := ruleB k t && !(k == 2 && t != 0 && t != 8)
theorem chainS {k t : Int} {F N : Prop} (no : ruleB k t = false → F) (nx : ruleB k t = true → N) :
  if (t == 8) = true then (if (k != 2) = true then F else if (t == 9) = true then (if (k == 3) = true then F else if (t != 9) = true then (if (k == 4) = true then F else N) else N) else if (t != 9) = true then (if (k == 4) = true then F else N) else N)
  else if (t == 9) = true then (if (k == 3) = true then F else if (t != 9) = true then (if (k == 4) = true then F else N) else N) else if (t != 9) = true then (if (k == 4) = true then F else N) else N := by
 unfold ruleB at no nx
 cases h1 : (t == 8) <;> cases h2 : (t == 9) <;> cases h3 : (k == 2) <;> cases h4 : (k == 3) <;> cases h5 : (k == 4) <;> simp_all
def slotP (a : Ar) (mk : List Int) (p k x : Int) : Prop := valOkB (valW a.ws (p + x)) = true ∧ leadsB a mk (valW a.ws (p + x)) (frmA a mk p) = true ∧ ruleB k (valW a.ws (p + x)).1 = true
def endP (ws : List U64) (p k sz : Int) : Prop := (k = 1 → strP ws p sz) ∧ (k = 4 → gw ws (p + 1) ≤ 255) ∧ (k = 6 → coP ws p)
def objP (a : Ar) (mk : List Int) (p : Int) : Prop := (∀ x ∈ slotsL (lookW a.ws p).1 (lookW a.ws p).2.1, slotP a mk p (lookW a.ws p).1 x) ∧ endP a.ws p (lookW a.ws p).1 (lookW a.ws p).2.1
open Classical in
noncomputable def pB (p : Prop) : Bool := decide p
theorem pB_no {p : Prop} (h : ¬ p) : pB p = false := by unfold pB; simp [h]
theorem pB_yes {p : Prop} (h : p) : pB p = true := by unfold pB; simp [h]
structure HeadAt (a : Ar) (p : Int) : Prop where
 p0 : 0 ≤ p
 ok : okW (gw a.ws p) = true
 pz : p + (lookW a.ws p).2.1 < a.ws.length
theorem HeadAt.look {a : Ar} {p : Int} (h : HeadAt a p) (hw : a.wf) : lookW a.ws p = hdW (gw a.ws p) ∧ sizeB (lookW a.ws p).1 (lookW a.ws p).2.1 = true ∧ 1 ≤ (lookW a.ws p).2.1 ∧ (lookW a.ws p).2.1 ≤ 65535 := by
 have e : lookW a.ws p = hdW (gw a.ws p) := by unfold lookW readH; rw [h.ok]; rfl
 have r := hdW_range (gw_in hw.w p)
 have k := h.ok
 unfold okW hdOk at k
 simp only [Bool.and_eq_true] at k
 rw [e]
 refine ⟨rfl, k.1, ?_, ?_⟩
 ·have k1 := k.1
  show 1 ≤ gw a.ws p / 16 % 65536
  unfold sizeB at k1
  repeat' split at k1
  all_goals first | omega | (simp only [decide_eq_true_eq] at k1; omega) | (simp at k1; done)
 ·show gw a.ws p / 16 % 65536 ≤ 65535
  omega
theorem loopO (t : Tab) (h112 : look t 112 = s112) (h93 : look t 93 = s93) (h174 : look t 174 = s174) (h176 : look t 176 = s176) (h175 : look t 175 = s175) (h103 : look t 103 = s103) {Q : Value → Mem → Prop} {s r mkS sl : Sl} {a : Ar} {mk : List Int} {p k sz z : Int} {g gh : Nat} {m : Mem}
  (hw : a.wf) (hO : MkOk a mk) (hmn : mkS.n = mk.length) (p0 : 0 ≤ p) (hk : sizeB k sz = true) (z1 : 1 ≤ sz ∧ sz ≤ 65535) (pz : p + sz < a.ws.length) (hsl : sl.n = (slotsL k sz).length)
  (no : ∀ M, Mem.le m M → ¬ ((∀ x ∈ slotsL k sz, slotP a mk p k x) ∧ endP a.ws p k sz) → ret Q (.bool false) M) (yes : ∀ M, Mem.le m M → ((∀ x ∈ slotsL k sz, slotP a mk p k x) ∧ endP a.ws p k sz) → ret Q (.bool true) M) :
  ∀ (d i : Nat), i + d = (slotsL k sz).length → (∀ (j : Nat) (x : Int), j < i → (slotsL k sz)[j]? = some x → slotP a mk p k x) → ∀ M : Mem, Mem.le m M → Ptr M g s r a → M gh = some (.cells #[.int .i64 k, .int .i64 sz, .int .i64 z] 33 (0, 0)) → ArAt M s r a → Rd M mkS.a mk → Rd M sl.a (slotsL k sz) →
   L89_9 (look t) (d + 1) Q mkS.a mkS.n mkS.c p g gh (frmA a mk p) sl.a sl.n sl.c (i : Int) M := by
 intro d
 induction d with
 | zero =>
  intro i hi hz M hle hb1 hH hA hM hL
  have hall : ∀ x ∈ slotsL k sz, slotP a mk p k x := by
   intro x hx
   obtain ⟨j, hj, e⟩ := List.getElem_of_mem hx
   exact hz j x (by omega) (by rw [List.getElem?_eq_getElem hj, e])
  rw [l89_9]
  refine ⟨M, Mem.le_refl _, ?_⟩
  rw [if_neg (by simp; omega)]
  refine ⟨_, cO hH 0, ?_⟩
  by_cases c1 : k = 1
  ·subst c1
   rw [if_pos (by decide)]
   refine ⟨_, _, _, cO hb1 0, _, cO hb1 1, _, cO hb1 2, _, cO hb1 3, _, cO hb1 4, _, cO hb1 5, _, cO hb1 6, _, cO hb1 7, _, cO hb1 8, _, _, _, cO hb1 9, _, cO hH 1, via h174 ⟨s, r, a, p, sz, rfl, hA, hw, p0, z1.1, z1.2, pz, _, rfl, ?_⟩⟩
   by_cases c : strP a.ws p sz
   ·rw [decide_eq_true c]; exact yes M hle ⟨hall, fun _ => c, fun h => absurd h (by decide), fun h => absurd h (by decide)⟩
   ·rw [decide_eq_false c]; exact no M hle fun h => c (h.2.1 rfl)
  rw [if_neg (by simpa using c1)]
  by_cases c2 : k = 4
  ·subst c2
   rw [if_pos (by decide)]
   refine ⟨_, _, _, cO hb1 0, _, cO hb1 1, _, cO hb1 2, _, cO hb1 3, _, cO hb1 4, _, cO hb1 5, _, cO hb1 6, _, cO hb1 7, _, cO hb1 8, _, _, _, cO hb1 9, via h175 ⟨s, r, a, p, 1, rfl, hA, hw, p0, by decide, by omega, _, rfl, via h103 ⟨_, _, _, rfl, _, rfl, ?_⟩⟩⟩
   have x1 := wrap_cases (gw_in hw.w (p + 1))
   have y1 := (gw_in hw.w (p + 1)).1
   unfold wordW
   by_cases c : gw a.ws (p + 1) ≤ 255
   ·rw [decide_eq_true (by omega)]; exact yes M hle ⟨hall, fun h => absurd h (by decide), fun _ => c, fun h => absurd h (by decide)⟩
   ·rw [decide_eq_false (by omega)]; exact no M hle fun h => c (h.2.2.1 rfl)
  rw [if_neg (by simpa using c2)]
  by_cases c3 : k = 6
  ·subst c3
   have e126 : sz = 126 := by
    unfold sizeB at hk
    simpa using hk
   subst e126
   rw [if_pos (by decide)]
   have h5 := hall 5 (by decide)
   refine ⟨_, _, _, cO hb1 0, _, cO hb1 1, _, cO hb1 2, _, cO hb1 3, _, cO hb1 4, _, cO hb1 5, _, cO hb1 6, _, cO hb1 7, _, cO hb1 8, _, _, _, cO hb1 9, via h176 ⟨s, r, a, p, rfl, hA, hw, p0, pz, h5.1, _, rfl, ?_⟩⟩
   by_cases c : coP a.ws p
   ·rw [coB_yes c]; exact yes M hle ⟨hall, fun h => absurd h (by decide), fun h => absurd h (by decide), fun _ => c⟩
   ·rw [coB_no c]; exact no M hle fun h => c (h.2.2.2 rfl)
  rw [if_neg (by simpa using c3)]
  exact yes M hle ⟨hall, fun h => absurd h c1, fun h => absurd h c2, fun h => absurd h c3⟩
 | succ d ih =>
  intro i hi hz M hle hP hH hA hM hL
  have hN := hw.n
  have hn := hA.n
  have hil : i < (slotsL k sz).length := by omega
  obtain ⟨x, hx⟩ : ∃ x, x = (slotsL k sz)[i] := ⟨_, rfl⟩
  have hxm : x ∈ slotsL k sz := by rw [hx]; exact List.getElem_mem _
  have hx1 : gi (slotsL k sz) (i : Int) = x := by unfold gi; rw [List.getD_eq_getElem?_getD, Int.toNat_natCast, List.getElem?_eq_getElem hil, hx]; rfl
  have hxr := slots_in hk hxm
  have len : (slotsL k sz).length ≤ 65536 := by
   unfold slotsL
   rw [everyK_len]
   unfold numK fromK
   repeat' split
   all_goals omega
  rw [l89_9]
  refine ⟨M, Mem.le_refl _, ?_⟩
  rw [if_pos (by simp; omega)]
  refine ⟨Mem.le M, Mem.le_refl _, _, _, _, held (cO hP 0), ri hL hsl.symm (by omega) (by omega) fun ad had hd => ⟨_, hd, ?_⟩⟩
  rw [hx1, w64 (x := p + x) (by omega) (by omega), wsucc (n := 65536) (by omega) (by decide)]
  have next : slotP a mk p k x → ∀ M', Mem.le M M' → L89_9 (look t) (d + 1) Q mkS.a mkS.n mkS.c p g gh (frmA a mk p) sl.a sl.n sl.c ((i + 1 : Nat) : Int) M' := by
   intro hs M' hM'
   refine ih (i + 1) (by omega) (fun j y hj hy => ?_) M' (Mem.le_trans hle hM') (hM' _ _ hP) (hM' _ _ hH) (hA.le hM') (hM.le hM') (hL.le hM')
   by_cases e : j = i
   ·rw [e, List.getElem?_eq_getElem hil, ← hx] at hy
    injection hy with hy
    exact hy ▸ hs
   ·exact hz j y (by omega) hy
  have bad : ∀ M', Mem.le M M' → ¬ slotP a mk p k x → ret Q (.bool false) M' := fun M' hM' h => no M' (Mem.le_trans hle hM') fun hh => h (hh.1 x hxm)
  refine ⟨via h112 ⟨s, a.ws, _, rfl, hn, hA.w, hw.w, hN, by omega, by omega, _, _, _, rfl, Mem.le_refl _, newA_intro fun g9 m7 hg9 e7 hb9 hle7 => ⟨hle7, sto (c := #[.int .i64 0, .int .i64 0]) (t := 75) hb9 rfl (by simp) fun m98 e8 hvv hne8 => ⟨le_other hle7 hg9 hne8, ?_⟩⟩⟩,
   newA_intro fun g9 m7 hg9 e7 hb9 hle7 => ⟨hle7, via h112 ⟨s, a.ws, _, rfl, hn, hA.w.le hle7, hw.w, hN, by omega, by omega, _, _, _, rfl, hle7, sto (c := #[.int .i64 0, .int .i64 0]) (t := 75) hb9 rfl (by simp) fun m98 e8 hvv hne8 => ⟨le_other hle7 hg9 hne8, ?_⟩⟩⟩⟩
  all_goals
   have hvv : m98 g9 = some (.cells #[.int .i64 (readV a.ws (p + x)).1.1, .int .i64 (readV a.ws (p + x)).1.2] 75 (0, 0)) := hvv
   have l98 : Mem.le M m98 := le_other hle7 hg9 hne8
   cases hv : valOkB (valW a.ws (p + x)) with
   | false =>
    have er : readV a.ws (p + x) = ((0, 0), false) := by unfold readV; rw [hv]; rfl
    rw [er, if_pos (by decide)]
    exact bad _ l98 fun h => by have := h.1; rw [hv] at this; cases this
   | true =>
    have er : readV a.ws (p + x) = (valW a.ws (p + x), true) := by unfold readV; rw [hv]; rfl
    rw [er] at hvv
    rw [er, if_neg (by simp)]
    have hb1 := l98 _ _ hP
    refine ⟨_, _, _, cO hb1 0, _, cO hb1 1, _, cO hb1 2, _, cO hb1 3, _, cO hb1 4, _, cO hb1 5, _, cO hb1 6, _, cO hb1 7, _, cO hb1 8, _, _, _, cO hb1 9, _, cO hvv 0, _, cO hvv 1, via h93 ⟨s, r, mkS, a, mk, valW a.ws (p + x), _, rfl, hA.le l98, hw, hmn, hM.le l98, hO, hv, _, rfl, ?_⟩⟩
    cases hl : leadsB a mk (valW a.ws (p + x)) (frmA a mk p) with
    | false => rw [if_pos (by decide)]; exact bad _ l98 fun h => by have := h.2.1; rw [hl] at this; cases this
    | true =>
     rw [if_neg (by decide)]
     have hh := l98 _ _ hH
     try unfold ciS
     simp only [ci, cs, cb, hi, hs, hb, cO hvv, cO hh, exists_and_left, exists_eq_left', List.getElem?_toArray, List.getElem?_cons_zero, List.getElem?_cons_succ, Option.some.injEq, Value.slice.injEq, Value.int.injEq, Value.bool.injEq, Value.string.injEq, Value.agg.injEq, Value.tuple.injEq, Value.pointer.injEq, List.cons.injEq, Array.mk.injEq, and_assoc, true_and, and_true, exists_eq_left]
     exact chainS (fun hr => bad _ l98 fun h => by rw [h.2.2] at hr; cases hr) (fun hr => next ⟨hv, hl, hr⟩ _ l98)
def s89 : Spec := fun args m Q => ∃ (s r mkS : Sl) (a : Ar) (mk : List Int) (p : Int), args = [vA s r a, vs mkS, .int .i64 p] ∧ ArAt m s r a ∧ a.wf ∧ mkS.n = mk.length ∧ Rd m mkS.a mk ∧ MkOk a mk ∧ HeadAt a p ∧ (gi mk p = 1 ∨ gi mk p = 2) ∧ Q (.bool (pB (objP a mk p))) m
theorem f89 (t : Tab) (h112 : look t 112 = s112) (h93 : look t 93 = s93) (h174 : look t 174 = s174) (h176 : look t 176 = s176) (h175 : look t 175 = s175) (h103 : look t 103 = s103) (h90 : look t 90 = s90) (h111 : look t 111 = s111) : Mt t s89 kp89 Tryz.f89 := by
 rintro args m Q ⟨s, r, mkS, a, mk, p, rfl, hA, hw, hmn, hM, hO, hH, hg, hQ⟩
 show FA _ _ _ _ [aG s r a, .slice mkS.a mkS.n mkS.c, .int .i64 p] m Q
 rw [e89]
 obtain ⟨lk, sz, z0, z1⟩ := hH.look hw
 have p0 := hH.p0
 have pz := hH.pz
 have hnn := hO.n
 unfold objP at hQ
 refine newA_intro fun g1 m2 hg1 e2 hb1 hle2 => ⟨_, _, _, cO hb1 0, _, cO hb1 1, _, cO hb1 2, _, cO hb1 3, _, cO hb1 4, _, cO hb1 5, _, cO hb1 6, _, cO hb1 7, _, cO hb1 8, _, _, _, cO hb1 9, via h90 ⟨s, r, a, p, rfl, ⟨hA.le hle2, hw, p0, by omega⟩, ?_⟩⟩
 generalize hh : lookW a.ws p = h at *
 obtain ⟨k, z, ser⟩ := h
 have z0 : 1 ≤ z := z0
 have z1 : z ≤ 65535 := z1
 have sz : sizeB k z = true := sz
 have pz : p + z < a.ws.length := pz
 refine ⟨_, _, _, rfl, newA_intro fun g3 m4 hg3 e4 hb3 hle4 => sto (c := #[.int .i64 0, .int .i64 0, .int .i64 0]) (t := 33) hb3 rfl (by simp) fun m5 e5 h5 hne5 => ?_⟩
 have h5 : m5 g3 = some (.cells #[.int .i64 k, .int .i64 z, .int .i64 ser] 33 (0, 0)) := h5
 have l25 : Mem.le m2 m5 := le_other hle4 hg3 hne5
 have l5 : Mem.le m m5 := Mem.le_trans hle2 l25
 have no : ∀ M, Mem.le m5 M → ¬ ((∀ x ∈ slotsL k z, slotP a mk p k x) ∧ endP a.ws p k z) → ret Q (.bool false) M := fun M hM h => ret_intro (Mem.le_trans l5 hM) (pB_no h ▸ hQ)
 have yes : ∀ M, Mem.le m5 M → ((∀ x ∈ slotsL k z, slotP a mk p k x) ∧ endP a.ws p k z) → ret Q (.bool true) M := fun M hM h => ret_intro (Mem.le_trans l5 hM) (pB_yes h ▸ hQ)
 have main : ∀ f : Int, f = frmA a mk p → look t 111 [.int .i64 k, .int .i64 z] m5 fun v42 m43 => (∃ (ra44 : Option Addr) (rn45 rc46 : Nat), (v42 = .slice ra44 rn45 rc46 ∧ (∃ k47 : Nat, L89_9 (look t) k47 Q mkS.a mkS.n mkS.c p g1 g3 f ra44 rn45 rc46 (0 : Int) m43))) := by
  rintro f rfl
  refine via h111 ⟨k, z, rfl, by omega, z1, sz, fun sl M D hle hOw hD => ⟨_, _, _, rfl, (slotsL k z).length + 1, ?_⟩⟩
  exact loopO t h112 h93 h174 h176 h175 h103 (s := s) (r := r) (mkS := mkS) (sl := sl) (z := ser) hw hO hmn p0 sz ⟨z0, z1⟩ pz hOw.1 no yes (slotsL k z).length 0 (by omega) (fun j x hj => by omega) M hle (hle _ _ (l25 _ _ hb1)) (hle _ _ h5) (hA.le (Mem.le_trans l5 hle)) (hM.le (Mem.le_trans l5 hle)) hOw.rd
 have hf : frmA a mk p = if gi mk p = 1 then if a.cyc = true ∧ a.scan ≤ p then 2 else 1 else 3 := by unfold frmA; rw [if_neg (by omega)]
 refine ri (hM.le l5) hmn.symm p0 (by omega) fun ad had hd => ⟨_, hd _ (Mem.le_refl _), ?_⟩
 have hb1 := l25 _ _ hb1
 rcases hg with hg | hg
 ·rw [hg, if_neg (by decide)]
  rw [hg, if_pos rfl] at hf
  refine ⟨_, cO hb1 4, ?_⟩
  by_cases hc : a.cyc = true
  ·rw [if_pos hc]
   refine ⟨_, cO hb1 5, ?_⟩
   by_cases hs : a.scan ≤ p
   ·rw [if_pos (by simpa using hs)]
    exact ⟨_, cO h5 0, _, cO h5 1, main 2 (by rw [hf, if_pos ⟨hc, hs⟩])⟩
   ·rw [if_neg (by simpa using hs)]
    exact ⟨_, cO h5 0, _, cO h5 1, main 1 (by rw [hf, if_neg fun h => hs h.2])⟩
  ·rw [if_neg hc]
   exact ⟨_, cO h5 0, _, cO h5 1, main 1 (by rw [hf, if_neg fun h => hc h.1])⟩
 ·rw [hg, if_pos (by decide)]
  rw [hg, if_neg (by decide)] at hf
  exact ⟨_, cO h5 0, _, cO h5 1, main 3 hf.symm⟩
def ch4 (k t : Int) (F N : Prop) : Prop := if (k == 4) = true then (if (t != 9) = true then F else N) else N
def ch3 (k t : Int) (F N : Prop) : Prop := if (k == 3) = true then (if (t == 9) = true then F else ch4 k t F N) else ch4 k t F N
def ch2 (k t : Int) (F N : Prop) : Prop := if (k == 2) = true then (if (t != 0) = true then (if (t != 8) = true then F else ch3 k t F N) else ch3 k t F N) else ch3 k t F N
def ch1 (k t : Int) (F N : Prop) : Prop := if (t == 8) = true then (if (k != 2) = true then F else ch2 k t F N) else ch2 k t F N
theorem chainI {k t : Int} {F N : Prop} (no : ruleI k t = false → F) (nx : ruleI k t = true → N) : ch1 k t F N := by
 unfold ruleI ruleB at no nx
 unfold ch1 ch2 ch3 ch4
 cases h1 : (t == 8) <;> cases h2 : (t == 9) <;> cases h0 : (t == 0) <;> cases h3 : (k == 2) <;> cases h4 : (k == 3) <;> cases h5 : (k == 4) <;> simp_all
def slotQ (a : Ar) (mk : List Int) (p k x : Int) : Prop := valOkB (valW a.ws (p + x)) = true ∧ leadsB a mk (valW a.ws (p + x)) (frmA a mk p) = true ∧ ruleI k (valW a.ws (p + x)).1 = true
def objQ (a : Ar) (mk : List Int) (p : Int) : Prop := (∀ x ∈ slotsL (lookW a.ws p).1 (lookW a.ws p).2.1, slotQ a mk p (lookW a.ws p).1 x) ∧ endP a.ws p (lookW a.ws p).1 (lookW a.ws p).2.1
theorem loopP (t : Tab) (h222 : look t 222 = s222) (h188 : look t 188 = s188) (h223 : look t 223 = s223) (h224 : look t 224 = s224) {Q : Value → Mem → Prop} {s r is sl : Sl} {ms mb : Option Nat} {a : Ar} {mk : List Int} {p k sz z : Int} {gs g gh : Nat} {m : Mem}
  (hw : a.wf) (hsm : a.sm) (hO : MkOk a mk) (hat : 0 ≤ p ∧ p < mk.length ∧ (gi mk p = 1 ∨ gi mk p = 2)) (p0 : 0 ≤ p) (hk : sizeB k sz = true) (z1 : 1 ≤ sz ∧ sz ≤ 65535) (pz : p + sz < a.ws.length) (hsl : sl.n = (slotsL k sz).length)
  (no : ∀ M, Mem.le m M → ¬ ((∀ x ∈ slotsL k sz, slotQ a mk p k x) ∧ endP a.ws p k sz) → ret Q (.bool false) M) (yes : ∀ M, Mem.le m M → ((∀ x ∈ slotsL k sz, slotQ a mk p k x) ∧ endP a.ws p k sz) → ret Q (.bool true) M) :
  ∀ (d i : Nat), i + d = (slotsL k sz).length → (∀ (j : Nat) (x : Int), j < i → (slotsL k sz)[j]? = some x → slotQ a mk p k x) → ∀ M : Mem, Mem.le m M → Svy M gs g s r is ms mb a mk → M gh = some (.cells #[.int .i64 k, .int .i64 sz, .int .i64 z] 33 (0, 0)) → Rd M sl.a (slotsL k sz) →
   L183_3 (look t) (d + 1) Q gs p gh sl.a sl.n sl.c (sl.n : Int) (i : Int) M := by
 intro d
 induction d with
 | zero =>
  intro i hi hz M hle hS hH hL
  have hn := hS.a.n
  have hN := hw.n
  have hall : ∀ x ∈ slotsL k sz, slotQ a mk p k x := by
   intro x hx
   obtain ⟨j, hj, e⟩ := List.getElem_of_mem hx
   exact hz j x (by omega) (by rw [List.getElem?_eq_getElem hj, e])
  rw [l183_3]
  refine ⟨M, Mem.le_refl _, ?_⟩
  rw [if_neg (by simp; omega)]
  refine ⟨_, cO hH 0, ?_⟩
  by_cases c1 : k = 1
  ·subst c1
   rw [if_pos (by decide)]
   refine ⟨_, cO hH 1, via h223 ⟨gs, g, s, r, is, ms, mb, a, mk, p, sz, rfl, hS, hw, p0, z1.1, z1.2, pz, _, rfl, ?_⟩⟩
   by_cases c : strP a.ws p sz
   ·rw [decide_eq_true c]; exact yes M hle ⟨hall, fun _ => c, fun h => absurd h (by decide), fun h => absurd h (by decide)⟩
   ·rw [decide_eq_false c]; exact no M hle fun h => c (h.2.1 rfl)
  rw [if_neg (by simpa using c1)]
  by_cases c2 : k = 4
  ·subst c2
   rw [if_pos (by decide), w64 (x := p + 1) (by omega) (by omega)]
   refine ⟨_, cO hS.b 0, po ⟨_, _, _, cO hS.p 0, wd hS.a.w hn (by omega) (by omega) fun ad had hd => ⟨_, hd _ (Mem.le_refl _), ?_⟩⟩⟩
   by_cases c : gw a.ws (p + 1) ≤ 255
   ·rw [decide_eq_true (by omega)]; exact yes M hle ⟨hall, fun h => absurd h (by decide), fun _ => c, fun h => absurd h (by decide)⟩
   ·rw [decide_eq_false (by omega)]; exact no M hle fun h => c (h.2.2.1 rfl)
  rw [if_neg (by simpa using c2)]
  by_cases c3 : k = 6
  ·subst c3
   have e126 : sz = 126 := by
    unfold sizeB at hk
    simpa using hk
   subst e126
   rw [if_pos (by decide)]
   refine ⟨_, cO hH 1, via h224 ⟨gs, g, s, r, is, ms, mb, a, mk, p, rfl, hS, hw, p0, pz, fun i hi => (hall _ ?_).1, _, rfl, ?_⟩⟩
   ·rw [slots6]
    unfold everyK
    exact List.mem_map.2 ⟨i, List.mem_range.2 hi, rfl⟩
   by_cases c : coP a.ws p
   ·rw [coB_yes c]; exact yes M hle ⟨hall, fun h => absurd h (by decide), fun h => absurd h (by decide), fun _ => c⟩
   ·rw [coB_no c]; exact no M hle fun h => c (h.2.2.2 rfl)
  rw [if_neg (by simpa using c3)]
  exact yes M hle ⟨hall, fun h => absurd h c1, fun h => absurd h c2, fun h => absurd h c3⟩
 | succ d ih =>
  intro i hi hz M hle hS hH hL
  have hN := hw.n
  have hn := hS.a.n
  have hil : i < (slotsL k sz).length := by omega
  obtain ⟨x, hx⟩ : ∃ x, x = (slotsL k sz)[i] := ⟨_, rfl⟩
  have hxm : x ∈ slotsL k sz := by rw [hx]; exact List.getElem_mem _
  have hx1 : gi (slotsL k sz) (i : Int) = x := by unfold gi; rw [List.getD_eq_getElem?_getD, Int.toNat_natCast, List.getElem?_eq_getElem hil, hx]; rfl
  have hxr := slots_in hk hxm
  have len : (slotsL k sz).length ≤ 65536 := by
   unfold slotsL
   rw [everyK_len]
   unfold numK fromK
   repeat' split
   all_goals omega
  rw [l183_3]
  refine ⟨M, Mem.le_refl _, ?_⟩
  rw [if_pos (by simp; omega)]
  refine ri hL hsl.symm (by omega) (by omega) fun ad had hd => ⟨_, hd _ (Mem.le_refl _), _, cO hS.b 0, po ⟨_, _, _, cO hS.p 0, ?_⟩⟩
  rw [hx1, w64 (x := p + x) (by omega) (by omega), wsucc (n := 65536) (by omega) (by decide)]
  have next : slotQ a mk p k x → ∀ M', Mem.le M M' → L183_3 (look t) (d + 1) Q gs p gh sl.a sl.n sl.c (sl.n : Int) ((i + 1 : Nat) : Int) M' := by
   intro hs M' hM'
   refine ih (i + 1) (by omega) (fun j y hj hy => ?_) M' (Mem.le_trans hle hM') (hS.le hM') (hM' _ _ hH) (hL.le hM')
   by_cases e : j = i
   ·rw [e, List.getElem?_eq_getElem hil, ← hx] at hy
    injection hy with hy
    exact hy ▸ hs
   ·exact hz j y (by omega) hy
  have bad : ∀ M', Mem.le M M' → ¬ slotQ a mk p k x → ret Q (.bool false) M' := fun M' hM' h => no M' (Mem.le_trans hle hM') fun hh => h (hh.1 x hxm)
  refine via h222 ⟨s, a.ws, _, rfl, hn, hS.a.w, hw.w, hN, by omega, by omega, _, _, _, rfl, newA_intro fun g9 m7 hg9 e7 hb9 hle7 => sto (c := #[.int .i64 0, .int .i64 0]) (t := 75) hb9 rfl (by simp) fun m98 e8 hvv hne8 => ?_⟩
  have hvv : m98 g9 = some (.cells #[.int .i64 (readV a.ws (p + x)).1.1, .int .i64 (readV a.ws (p + x)).1.2] 75 (0, 0)) := hvv
  have l98 : Mem.le M m98 := le_other hle7 hg9 hne8
  cases hv : valOkB (valW a.ws (p + x)) with
  | false =>
   have er : readV a.ws (p + x) = ((0, 0), false) := by unfold readV; rw [hv]; rfl
   rw [er, if_pos (by decide)]
   exact bad _ l98 fun h => by have := h.1; rw [hv] at this; cases this
  | true =>
   have er : readV a.ws (p + x) = (valW a.ws (p + x), true) := by unfold readV; rw [hv]; rfl
   rw [er] at hvv
   rw [er, if_neg (by simp)]
   refine ⟨_, cO hvv 0, _, cO hvv 1, via h188 ⟨gs, g, s, r, is, ms, mb, a, mk, valW a.ws (p + x), p, rfl, hS.le l98, hsm, hw, hO, hv, .inr hat, _, rfl, ?_⟩⟩
   cases hl : leadsB a mk (valW a.ws (p + x)) (frmA a mk p) with
   | false => rw [if_pos (by decide)]; exact bad _ l98 fun h => by have := h.2.1; rw [hl] at this; cases this
   | true =>
    rw [if_neg (by decide)]
    have hh := l98 _ _ hH
    try unfold ciI
    simp only [ci, cs, cb, hi, hs, hb, cO hvv, cO hh, exists_and_left, exists_eq_left', List.getElem?_toArray, List.getElem?_cons_zero, List.getElem?_cons_succ, Option.some.injEq, Value.slice.injEq, Value.int.injEq, Value.bool.injEq, Value.string.injEq, Value.agg.injEq, Value.tuple.injEq, Value.pointer.injEq, List.cons.injEq, Array.mk.injEq, and_assoc, true_and, and_true, exists_eq_left]
    exact chainI (fun hr => bad _ l98 fun h => by rw [h.2.2] at hr; cases hr) (fun hr => next ⟨hv, hl, hr⟩ _ l98)
def s183 : Spec := fun args m Q => ∃ (gs g : Nat) (s r is : Sl) (ms mb : Option Nat) (a : Ar) (mk : List Int) (p : Int), args = [.pointer (some ⟨gs, 0, none⟩), .int .i64 p] ∧ Svy m gs g s r is ms mb a mk ∧ a.sm ∧ a.wf ∧ MkOk a mk ∧ HeadAt a p ∧ (gi mk p = 1 ∨ gi mk p = 2) ∧ Q (.bool (pB (objQ a mk p))) m
theorem f183 (t : Tab) (h222 : look t 222 = s222) (h188 : look t 188 = s188) (h223 : look t 223 = s223) (h224 : look t 224 = s224) (h102 : look t 102 = s102) (h149 : look t 149 = s149) : Mt t s183 kp183 Tryz.f183 := by
 rintro args m Q ⟨gs, g, s, r, is, ms, mb, a, mk, p, rfl, hS, hsm, hw, hO, hH, hg, hQ⟩
 rw [e183]
 obtain ⟨lk, sz, z0, z1⟩ := hH.look hw
 have p0 := hH.p0
 have pz := hH.pz
 have hnn := hO.n
 unfold objQ at hQ
 refine ⟨_, cO hS.b 0, via h102 ⟨g, s, r, a, p, rfl, ⟨hS.p, hS.a, hw, p0, by omega⟩, ?_⟩⟩
 generalize hh : lookW a.ws p = h at *
 obtain ⟨k, z, ser⟩ := h
 have z0 : 1 ≤ z := z0
 have z1 : z ≤ 65535 := z1
 have sz : sizeB k z = true := sz
 have pz : p + z < a.ws.length := pz
 refine ⟨_, _, _, rfl, newA_intro fun g3 m4 hg3 e4 hb3 hle4 => sto (c := #[.int .i64 0, .int .i64 0, .int .i64 0]) (t := 33) hb3 rfl (by simp) fun m5 e5 h5 hne5 => ?_⟩
 have h5 : m5 g3 = some (.cells #[.int .i64 k, .int .i64 z, .int .i64 ser] 33 (0, 0)) := h5
 have l5 : Mem.le m m5 := le_other hle4 hg3 hne5
 have no : ∀ M, Mem.le m5 M → ¬ ((∀ x ∈ slotsL k z, slotQ a mk p k x) ∧ endP a.ws p k z) → ret Q (.bool false) M := fun M hM h => ret_intro (Mem.le_trans l5 hM) (pB_no h ▸ hQ)
 have yes : ∀ M, Mem.le m5 M → ((∀ x ∈ slotsL k z, slotQ a mk p k x) ∧ endP a.ws p k z) → ret Q (.bool true) M := fun M hM h => ret_intro (Mem.le_trans l5 hM) (pB_yes h ▸ hQ)
 refine ⟨_, cO h5 0, _, cO h5 1, via h149 ⟨k, z, rfl, by omega, z1, sz, fun sl M D hle hOw hD => ⟨_, _, _, rfl, (slotsL k z).length + 1, ?_⟩⟩⟩
 exact loopP t h222 h188 h223 h224 (sl := sl) (z := ser) hw hsm hO ⟨p0, by omega, hg⟩ p0 sz ⟨z0, z1⟩ pz hOw.1 no yes (slotsL k z).length 0 (by omega) (fun j x hj => by omega) M hle (hS.le (Mem.le_trans l5 hle)) (hle _ _ h5) hOw.rd
def byteI (ws : List U64) (p : Int) (i : Nat) : Int := IntKind.u8.wrap (gw ws (p + 2 + ((i / 8 : Nat) : Int)) / ((2 ^ (8 * (i % 8)) : Nat) : Int))
theorem u8_range (x : Int) : 0 ≤ IntKind.u8.wrap x ∧ IntKind.u8.wrap x < 256 := by
 unfold IntKind.wrap
 simp [IntKind.bits, IntKind.signed]
 omega
def byteW (ws : List U64) (p : Int) (i : Nat) : UInt8 := UInt8.ofNat (byteI ws p i).toNat
theorem byteW_eq (ws : List U64) (p : Int) (i : Nat) : ((byteW ws p i).toNat : Int) = byteI ws p i := by
 have h := u8_range (gw ws (p + 2 + ((i / 8 : Nat) : Int)) / ((2 ^ (8 * (i % 8)) : Nat) : Int))
 unfold byteW
 rw [UInt8.toNat_ofNat']
 unfold byteI
 omega
def textN (ws : List U64) (p : Int) : Nat := (gw ws (p + 1)).toNat
def textL (ws : List U64) (p : Int) : List UInt8 := (List.range (textN ws p)).map (byteW ws p)
def textS (ws : List U64) (p : Int) : ByteArray := ⟨(textL ws p).toArray⟩
structure TextAt (a : Ar) (p : Int) : Prop where
 p0 : 0 ≤ p
 n : gw a.ws (p + 1) ≤ 160
 pz : p + 1 + (gw a.ws (p + 1) + 7) / 8 < a.ws.length
 p1 : p + 1 < a.ws.length
def rowU (ws : List U64) (p : Int) (n i : Nat) : List U8 := (List.range i).map (fun j => (⟨byteI ws p j⟩ : U8)) ++ (List.replicate n (⟨0⟩ : U8)).drop i
theorem flat_u8 (l : List U8) : flat Enc.e l = l.map fun x => Value.int .u8 x.v := by
 induction l with
 | nil => rfl
 | cons x l ih => rw [flat_cons, ih]; rfl
theorem byte_idx {x : Nat} (h : x < 160) {p : Int} (p0 : 0 ≤ p) (pn : p ≤ 2 ^ 20) : IntKind.i64.wrap (IntKind.i64.wrap (p + 2) + IntKind.i64.wrap (Int.tdiv (x : Int) 8)) = p + 2 + ((x / 8 : Nat) : Int) ∧ IntKind.i64.wrap (8 * Int.tmod (x : Int) 8) = ((8 * (x % 8) : Nat) : Int) := by
 rw [Int.tdiv_eq_ediv_of_nonneg (by omega), Int.tmod_eq_emod_of_nonneg (by omega), w64 (x := p + 2) (by omega) (by omega), w64 (x := (x : Int) / 8) (by omega) (by omega), w64 (by omega) (by omega), w64 (by omega) (by omega)]
 constructor <;> omega
theorem rowU_end {ws : List U64} {p : Int} {n : Nat} {m : Mem} {g : Nat} (hn : n = textN ws p) (h : m g = some (.cells (flat Enc.e (rowU ws p n n) ++ []).toArray 5 (0, 0))) : (textL ws p).length = n ∧ CellsAt m (some ⟨g, 0, none⟩) ((textL ws p).map fun b => .int .u8 b.toNat) := by
 subst hn
 refine ⟨by simp [textL], ?_⟩
 have := cellsAt_block h
 rw [flat_u8] at this
 have e : (rowU ws p (textN ws p) (textN ws p)).map (fun x => Value.int .u8 x.v) = (textL ws p).map fun b => .int .u8 b.toNat := by
  unfold rowU textL
  simp only [List.map_append, List.map_map, List.drop_replicate, Nat.sub_self, List.replicate_zero, List.append_nil, List.map_nil]
  refine List.map_congr_left fun j _ => ?_
  show Value.int .u8 (byteI ws p j) = Value.int .u8 ((byteW ws p j).toNat : Int)
  rw [byteW_eq]
 rwa [e] at this
theorem rowU_set {ws : List U64} {p : Int} {n i : Nat} (hi : i < n) : (rowU ws p n i).set i ⟨byteI ws p i⟩ = rowU ws p n (i + 1) := upd_row _ _ _ (by simpa using hi)
theorem loopT (t : Tab) {Q : Value → Mem → Prop} {s r : Sl} {a : Ar} {p : Int} {g gr : Nat} {m : Mem} {n : Nat} (hw : a.wf) (hT : TextAt a p) (hn : n = textN a.ws p) (hg : m gr = none) (hQ : ∀ M, Mem.le m M → ret Q (.string (textS a.ws p)) M) (hP : Ptr m g s r a) (hA : ArAt m s r a) :
  ∀ (d i : Nat), i + d = n → ∀ M : Mem, Mem.le m M → M gr = some (.cells (flat Enc.e (rowU a.ws p n i) ++ []).toArray 5 (0, 0)) →
   L142_4 (look t) (d + 1) Q p g (n : Int) (some ⟨gr, 0, none⟩) n n (i : Int) M ∧ L203_4 (look t) (d + 1) Q g p (some ⟨gr, 0, none⟩) n n (n : Int) (i : Int) M := by
 intro d
 have n160 : n ≤ 160 := by rw [hn]; unfold textN; have := hT.n; omega
 have p0 := hT.p0
 have pz := hT.pz
 have p1 := hT.p1
 have hN := hw.n
 have hnn := hA.n
 induction d with
 | zero =>
  intro i hi M hle hb
  have hin : i = n := by omega
  rw [hin] at hb
  obtain ⟨e1, e2⟩ := rowU_end hn hb
  constructor
  ·rw [l142_4]
   refine ⟨M, Mem.le_refl _, ?_⟩
   rw [if_neg (by simp; omega)]
   exact ⟨textL a.ws p, e1, e2, hQ M hle⟩
  ·rw [l203_4]
   refine ⟨M, Mem.le_refl _, ?_⟩
   rw [if_neg (by simp; omega)]
   exact ⟨textL a.ws p, e1, e2, hQ M hle⟩
 | succ d ih =>
  intro i hi M hle hb
  have hin : i < n := by omega
  obtain ⟨i1, i2⟩ := byte_idx (x := i) (by omega) p0 (by omega)
  have hr : p + 2 + ((i / 8 : Nat) : Int) < a.ws.length := by
   have : (n : Int) = gw a.ws (p + 1) := by rw [hn]; unfold textN; have := (gw_in hw.w (p + 1)).1; omega
   omega
  have ip : Ptr M g s r a := hle _ _ hP
  have hA := hA.le hle
  have sh : ∀ w : Int, IntKind.u8.wrap (Int.fdiv w (2 ^ min (Int.toNat ((8 * (i % 8) : Nat) : Int)) (IntKind.bits .u64))) = IntKind.u8.wrap (w / ((2 ^ (8 * (i % 8)) : Nat) : Int)) := by
   intro w
   rw [fdiv_shr w (8 * (i % 8)) (by omega)]
  have step : ∀ K : Mem → Prop, (∀ M', Mem.le m M' → M' gr = some (.cells (flat Enc.e (rowU a.ws p n (i + 1)) ++ []).toArray 5 (0, 0)) → K M') →
    stoA M ((⟨gr, 0, none⟩ : Addr).add (Int.toNat (i : Int) * 1)) [.int .u8 (byteI a.ws p i)] K := by
   intro K hK
   refine sto_elem (x := (⟨byteI a.ws p i⟩ : U8)) (i := i) hb (by rw [add_eq rfl, Nat.zero_add]; rfl) (by unfold rowU; simp; omega) ?_
   rw [rowU_set hin]
   refine hK _ (le_upd_fresh hle hg) (upd_same _ _ _)
  constructor
  ·rw [l142_4]
   refine ⟨M, Mem.le_refl _, ?_⟩
   rw [if_pos (by simp; omega), i1, i2, u64w (x := ((8 * (i % 8) : Nat) : Int)) (by omega) (by omega), wsucc hin (by omega)]
   refine ⟨_, _, _, cO ip 0, by decide, wd hA.w hnn (by omega) (by omega) fun ad had hd => ⟨_, hd _ (Mem.le_refl _), by decide, by omega, po ⟨by omega, by omega, ?_⟩⟩⟩
   rw [sh]
   exact step _ fun M' hle' hb' => (ih (i + 1) (by omega) M' hle' hb').1
  ·rw [l203_4]
   refine ⟨M, Mem.le_refl _, ?_⟩
   rw [if_pos (by simp; omega), i1, i2, wsucc hin (by omega)]
   refine ⟨_, _, _, cO ip 0, by decide, wd hA.w hnn (by omega) (by omega) fun ad had hd => ⟨_, hd _ (Mem.le_refl _), by decide, by omega, po ⟨by omega, by omega, ?_⟩⟩⟩
   rw [sh]
   exact step _ fun M' hle' hb' => (ih (i + 1) (by omega) M' hle' hb').2
def s142 : Spec := fun args m Q => ∃ (s r : Sl) (a : Ar) (p : Int), args = [vA s r a, .int .i64 p] ∧ ArAt m s r a ∧ a.wf ∧ TextAt a p ∧ Q (.string (textS a.ws p)) m
theorem row0 (ws : List U64) (p : Int) (n : Nat) {m : Mem} {g : Nat} (h : m g = some (.cells (zeroRow #[.int .u8 (0 : Int)] (n * 1)) 5 (0, 0))) : m g = some (.cells (flat Enc.e (rowU ws p n 0) ++ []).toArray 5 (0, 0)) := by
 rw [h]
 have := zeroRow_eq (α := U8) ⟨0⟩ n
 have e : rowU ws p n 0 = List.replicate n ⟨0⟩ := by simp [rowU]
 rw [e, List.append_nil]
 exact congrArg some (congrArg (fun c => Obj.cells c 5 (0, 0)) this)
theorem f142 (t : Tab) (h175 : look t 175 = s175) : Mt t s142 kp142 Tryz.f142 := by
 rintro args m Q ⟨s, r, a, p, rfl, hA, hw, hT, hQ⟩
 show FA _ _ _ _ [aG s r a, .int .i64 p] m Q
 rw [e142]
 have hN := hw.n
 have p1 := hT.p1
 have y := (gw_in hw.w (p + 1)).1
 have n160 := hT.n
 refine newA_intro fun g1 m2 hg1 e2 hb1 hle2 => ⟨_, _, _, cO hb1 0, _, cO hb1 1, _, cO hb1 2, _, cO hb1 3, _, cO hb1 4, _, cO hb1 5, _, cO hb1 6, _, cO hb1 7, _, cO hb1 8, _, _, _, cO hb1 9, via h175 ⟨s, r, a, p, 1, rfl, hA.le hle2, hw, hT.p0, by decide, by omega, ?_⟩⟩
 have e : wordW a.ws p 1 = (textN a.ws p : Int) := by
  unfold wordW textN
  rw [w64 (by omega) (by omega)]
  omega
 have n160' : textN a.ws p ≤ 160 := by unfold textN; omega
 rw [e]
 generalize hn : textN a.ws p = n at *
 refine ⟨_, rfl, by omega, by omega, by omega, by omega, ?_⟩
 rw [Int.toNat_natCast]
 refine newA_intro fun g3 m4 hg3 e4 hb3 hle4 => ⟨n + 1, ?_⟩
 exact (loopT t (s := s) (r := r) (a := a) (p := p) (g := g1) (gr := g3) (m := m2) hw hT hn.symm hg3 (fun M hM => ret_intro (Mem.le_trans hle2 hM) hQ) hb1 (hA.le hle2) n 0 (by omega) m4 hle4 (row0 _ _ _ hb3)).1
def s203 : Spec := fun args m Q => ∃ (g : Nat) (s r : Sl) (a : Ar) (p : Int), args = [.pointer (some ⟨g, 0, none⟩), .int .i64 p] ∧ Ptr m g s r a ∧ ArAt m s r a ∧ a.wf ∧ TextAt a p ∧ Q (.string (textS a.ws p)) m
theorem f203 (t : Tab) : Mt t s203 kp203 Tryz.f203 := by
 rintro args m Q ⟨g, s, r, a, p, rfl, hP, hA, hw, hT, hQ⟩
 rw [e203]
 have hN := hw.n
 have hnn := hA.n
 have p1 := hT.p1
 have p0 := hT.p0
 have y := (gw_in hw.w (p + 1)).1
 have n160 := hT.n
 rw [w64 (x := p + 1) (by omega) (by omega)]
 refine ⟨_, _, _, cO hP 0, wd hA.w hnn (by omega) (by omega) fun ad had hd => ⟨_, hd _ (Mem.le_refl _), ?_⟩⟩
 have e : IntKind.i64.wrap (gw a.ws (p + 1)) = (textN a.ws p : Int) := by
  unfold textN
  rw [w64 (by omega) (by omega)]
  omega
 have n160' : textN a.ws p ≤ 160 := by unfold textN; omega
 rw [e]
 generalize hn : textN a.ws p = n at *
 refine ⟨by omega, by omega, by omega, by omega, ?_⟩
 rw [Int.toNat_natCast]
 refine newA_intro fun g3 m4 hg3 e4 hb3 hle4 => ⟨n + 1, ?_⟩
 exact (loopT t (s := s) (r := r) (a := a) (p := p) (g := g) (gr := g3) (m := m) hw hT hn.symm hg3 (fun M hM => ret_intro hM hQ) hP hA n 0 (by omega) m4 hle4 (row0 _ _ _ hb3)).2
def hashS (l : List UInt8) : Int := l.foldl (fun h b => (33 * h + (b.toNat : Int)) % 1000003) 5381
def hashA (ws : List U64) (v : Vl) : Int := if v.1 = 1 then v.2 else if v.1 = 2 then IntKind.u64.wrap v.2 % 1000003 else if v.1 = 7 then v.2 + 7 else if v.1 = 3 then hashS (textL ws (whereW ws v.2)) else (lookW ws (whereW ws v.2)).2.2
structure KeyOk (a : Ar) (v : Vl) : Prop where
 ok : valOkB v = true
 t0 : 1 ≤ v.1
 t1 : v.1 ≤ 7
 r : isRefB v = true → v.2 < a.ws.length ∧ 0 ≤ whereW a.ws v.2 ∧ whereW a.ws v.2 < a.ws.length ∧ placeA a v.2 = whereW a.ws v.2
 s : v.1 = 3 → TextAt a (whereW a.ws v.2)
theorem hash_step {h : Int} (b : UInt8) (h0 : 0 ≤ h) (h1 : h < 1000003) : Int.tmod (IntKind.i64.wrap (IntKind.i64.wrap (33 * h) + IntKind.i64.wrap (b.toNat : Int))) 1000003 = (33 * h + (b.toNat : Int)) % 1000003 ∧ 0 ≤ (33 * h + (b.toNat : Int)) % 1000003 ∧ (33 * h + (b.toNat : Int)) % 1000003 < 1000003 := by
 have hb : b.toNat < 256 := b.toNat_lt
 rw [w64 (x := 33 * h) (by omega) (by omega), w64 (x := (b.toNat : Int)) (by omega) (by omega), w64 (by omega) (by omega), Int.tmod_eq_emod_of_nonneg (by omega)]
 exact ⟨rfl, by omega, by omega⟩
theorem foldH_range : ∀ (l : List UInt8) (h : Int), 0 ≤ h → h < 1000003 → 0 ≤ l.foldl (fun h b => (33 * h + (b.toNat : Int)) % 1000003) h ∧ l.foldl (fun h b => (33 * h + (b.toNat : Int)) % 1000003) h < 1000003
 | [], h, h0, h1 => ⟨h0, h1⟩
 | b :: l, h, h0, h1 => foldH_range l _ (hash_step b h0 h1).2.1 (hash_step b h0 h1).2.2
theorem bytes_get (l : List UInt8) (i : Nat) : (⟨l.toArray⟩ : ByteArray)[i]? = l[i]? := by
 show (if h : i < (⟨l.toArray⟩ : ByteArray).size then some ((⟨l.toArray⟩ : ByteArray)[i]) else none) = l[i]?
 by_cases h : i < l.length
 ·rw [dif_pos (show i < (⟨l.toArray⟩ : ByteArray).size from h), List.getElem?_eq_getElem h]
  rfl
 ·rw [dif_neg (show ¬ i < (⟨l.toArray⟩ : ByteArray).size from h), List.getElem?_eq_none (by omega)]
theorem loopH (t : Tab) {Q : Value → Mem → Prop} {l : List UInt8} {m : Mem} (hl : l.length ≤ 160) (hQ : ∀ M, Mem.le m M → ret Q (.int .i64 (hashS l)) M) :
  ∀ (d i : Nat), i + d = l.length → ∀ (h : Int), 0 ≤ h → h < 1000003 → (l.drop i).foldl (fun h b => (33 * h + (b.toNat : Int)) % 1000003) h = hashS l → ∀ M : Mem, Mem.le m M →
   L221_12 (look t) (d + 1) Q ⟨l.toArray⟩ h (i : Int) M ∧ L227_10 (look t) (d + 1) Q h ⟨l.toArray⟩ (l.length : Int) (i : Int) M := by
 intro d
 induction d with
 | zero =>
  intro i hi h h0 h1 he M hM
  rw [List.drop_eq_nil_of_le (by omega)] at he
  have he : h = hashS l := he
  subst he
  constructor
  ·rw [l221_12]
   refine ⟨M, Mem.le_refl _, ?_⟩
   rw [if_neg (by simp [ByteArray.size]; omega)]
   exact hQ M hM
  ·rw [l227_10]
   refine ⟨M, Mem.le_refl _, ?_⟩
   rw [if_neg (by simp; omega)]
   exact hQ M hM
 | succ d ih =>
  intro i hi h h0 h1 he M hM
  have hil : i < l.length := by omega
  rw [List.drop_eq_getElem_cons hil, List.foldl_cons] at he
  obtain ⟨a1, a2, a3⟩ := hash_step l[i] h0 h1
  have hg : (⟨l.toArray⟩ : ByteArray)[Int.toNat (i : Int)]? = some l[i] := by rw [bytes_get, Int.toNat_natCast, List.getElem?_eq_getElem hil]
  have next := ih (i + 1) (by omega) _ a2 a3 he M hM
  constructor
  ·rw [l221_12]
   refine ⟨M, Mem.le_refl _, ?_⟩
   rw [if_pos (by simp [ByteArray.size]; omega), wsucc hil (by omega)]
   refine ⟨by omega, _, hg, by decide, ?_⟩
   rw [a1]
   exact next.1
  ·rw [l227_10]
   refine ⟨M, Mem.le_refl _, ?_⟩
   rw [if_pos (by simp; omega), wsucc hil (by omega)]
   refine ⟨by omega, _, hg, by decide, ?_⟩
   rw [a1]
   exact next.2
theorem key_ref {v : Vl} (h : v.1 = 3 ∨ v.1 = 4 ∨ v.1 = 5 ∨ v.1 = 6) : isRefB v = true := by
 unfold isRefB kindT
 rcases h with h | h | h | h <;> rw [h] <;> decide
theorem text_len {a : Ar} {p : Int} (h : TextAt a p) : (textL a.ws p).length ≤ 160 := by
 have := h.n
 simp [textL, textN]
 omega
theorem val_small {v : Vl} (h : valOkB v = true) (h7 : v.1 = 7) : 1 ≤ v.2 ∧ v.2 ≤ 20 := by
 unfold valOkB at h
 rw [h7] at h
 simpa using h
def s221 : Spec := fun args m Q => ∃ (s r : Sl) (a : Ar) (v : Vl), args = [vA s r a, vVl v] ∧ ArAt m s r a ∧ a.wf ∧ KeyOk a v ∧ Q (.int .i64 (hashA a.ws v)) m
theorem f221 (t : Tab) (h142 : look t 142 = s142) (h113 : look t 113 = s113) (h90 : look t 90 = s90) : Mt t s221 kp221 Tryz.f221 := by
 rintro args m Q ⟨s, r, a, v, rfl, hA, hw, hK, hQ⟩
 show FA _ _ _ _ [aG s r a, .agg #[.int .i64 v.1, .int .i64 v.2]] m Q
 rw [e221]
 unfold hashA at hQ
 refine newA_intro fun g1 m2 hg1 e2 hb1 hle2 => newA_intro fun g3 m4 hg3 e4 hb3 hle4 => ⟨_, cO hb3 0, ?_⟩
 have hb1 := hle4 _ _ hb1
 have l4 := Mem.le_trans hle2 hle4
 have hA4 := hA.le l4
 by_cases c1 : v.1 = 1
 ·rw [if_pos (by simpa using c1)]; rw [if_pos c1] at hQ; exact ⟨_, cO hb3 1, ret_intro l4 hQ⟩
 rw [if_neg (by simpa using c1)]; rw [if_neg c1] at hQ
 by_cases c2 : v.1 = 2
 ·rw [if_pos (by simpa using c2)]; rw [if_pos c2] at hQ
  have hu : 0 ≤ IntKind.u64.wrap v.2 := by unfold IntKind.wrap; simp [IntKind.bits, IntKind.signed]; omega
  refine ⟨_, cO hb3 1, by decide, ret_int l4 hQ ?_⟩
  rw [Int.tmod_eq_emod_of_nonneg hu, w64 (by omega) (by omega)]
 rw [if_neg (by simpa using c2)]; rw [if_neg c2] at hQ
 by_cases c7 : v.1 = 7
 ·rw [if_pos (by simpa using c7)]; rw [if_pos c7] at hQ
  have := val_small hK.ok c7
  exact ⟨_, cO hb3 1, ret_int l4 hQ (w64 (by omega) (by omega))⟩
 rw [if_neg (by simpa using c7)]; rw [if_neg c7] at hQ
 have t0 := hK.t0
 have t1 := hK.t1
 have hr := key_ref (v := v) (by omega)
 obtain ⟨w0, w1, w2, w3⟩ := hK.r hr
 have hp := ref_pos hK.ok hr
 by_cases c3 : v.1 = 3
 ·rw [if_pos (by simpa using c3)]; rw [if_pos c3] at hQ
  have hT := hK.s c3
  refine ⟨Mem.le m4, Mem.le_refl _, _, _, _, held (cO hb1 0), _, held (cO hb1 1), _, held (cO hb1 2), _, held (cO hb1 3), _, held (cO hb1 4), _, held (cO hb1 5), _, held (cO hb1 6), _, held (cO hb1 7), _, held (cO hb1 8), _, _, _, held (cO hb1 9), _, _, _, held (cO hb1 0), _, held (cO hb1 1), _, held (cO hb1 2), _, held (cO hb1 3), _, held (cO hb1 4), _, held (cO hb1 5), _, held (cO hb1 6), _, held (cO hb1 7), _, held (cO hb1 8), _, _, _, held (cO hb1 9), _, held (cO hb3 1), via h113 ⟨s, r, a, _, rfl, ⟨hA4, hw, by omega, w0⟩, _, rfl, Mem.le_refl _, via h142 ⟨s, r, a, _, rfl, hA4, hw, hT, _, rfl, Mem.le_refl _, (textL a.ws (whereW a.ws v.2)).length + 1, ?_⟩⟩⟩
  exact (loopH t (m := m4) (text_len hT) (fun M hM => ret_intro (Mem.le_trans l4 hM) hQ) _ 0 (by omega) 5381 (by decide) (by decide) rfl m4 (Mem.le_refl _)).1
 ·rw [if_neg (by simpa using c3)]; rw [if_neg c3] at hQ
  exact ⟨Mem.le m4, Mem.le_refl _, _, _, _, held (cO hb1 0), _, held (cO hb1 1), _, held (cO hb1 2), _, held (cO hb1 3), _, held (cO hb1 4), _, held (cO hb1 5), _, held (cO hb1 6), _, held (cO hb1 7), _, held (cO hb1 8), _, _, _, held (cO hb1 9), _, _, _, held (cO hb1 0), _, held (cO hb1 1), _, held (cO hb1 2), _, held (cO hb1 3), _, held (cO hb1 4), _, held (cO hb1 5), _, held (cO hb1 6), _, held (cO hb1 7), _, held (cO hb1 8), _, _, _, held (cO hb1 9), _, held (cO hb3 1), via h113 ⟨s, r, a, _, rfl, ⟨hA4, hw, by omega, w0⟩, _, rfl, Mem.le_refl _, via h90 ⟨s, r, a, _, rfl, ⟨hA4, hw, w1, w2⟩, _, _, _, rfl, Mem.le_refl _, ret_intro l4 hQ⟩⟩⟩
def s227 : Spec := fun args m Q => ∃ (g : Nat) (s r : Sl) (a : Ar) (v : Vl), args = [.pointer (some ⟨g, 0, none⟩), vVl v] ∧ Ptr m g s r a ∧ ArAt m s r a ∧ a.sm ∧ a.wf ∧ KeyOk a v ∧ Q (.int .i64 (hashA a.ws v)) m
theorem f227 (t : Tab) (h203 : look t 203 = s203) (h166 : look t 166 = s166) (h102 : look t 102 = s102) : Mt t s227 kp227 Tryz.f227 := by
 rintro args m Q ⟨g, s, r, a, v, rfl, hP, hA, hsm, hw, hK, hQ⟩
 show FA _ _ _ _ [.pointer (some ⟨g, 0, none⟩), .agg #[.int .i64 v.1, .int .i64 v.2]] m Q
 rw [e227]
 unfold hashA at hQ
 refine newA_intro fun g1 m2 hg1 e2 hb1 hle2 => ⟨_, cO hb1 0, ?_⟩
 have hA2 := hA.le hle2
 have hP2 : Ptr m2 g s r a := hle2 _ _ hP
 have t0 := hK.t0
 have t1 := hK.t1
 by_cases c2 : v.1 = 2
 ·rw [if_pos (by simpa using c2)]; rw [if_neg (by omega), if_pos c2] at hQ
  have hu : 0 ≤ IntKind.u64.wrap v.2 := by unfold IntKind.wrap; simp [IntKind.bits, IntKind.signed]; omega
  refine ⟨_, cO hb1 1, by decide, ret_int hle2 hQ ?_⟩
  rw [Int.tmod_eq_emod_of_nonneg hu, w64 (by omega) (by omega)]
 rw [if_neg (by simpa using c2)]
 by_cases c7 : v.1 = 7
 ·rw [if_pos (by simpa using c7)]; rw [if_neg (by omega), if_neg (by omega), if_pos c7] at hQ
  have := val_small hK.ok c7
  exact ⟨_, cO hb1 1, ret_int hle2 hQ (w64 (by omega) (by omega))⟩
 rw [if_neg (by simpa using c7)]
 by_cases c1 : v.1 = 1
 ·iterate 4 rw [if_neg (by simp; omega)]
  rw [if_pos c1] at hQ; exact ⟨_, cO hb1 1, ret_intro hle2 hQ⟩
 rw [if_neg c1, if_neg c2, if_neg c7] at hQ
 have hr := key_ref (v := v) (by omega)
 obtain ⟨w0, w1, w2, w3⟩ := hK.r hr
 have hp := ref_pos hK.ok hr
 by_cases c3 : v.1 = 3
 ·rw [if_pos (by simpa using c3)]; rw [if_pos c3] at hQ
  have hT := hK.s c3
  refine ⟨_, cO hb1 0, _, cO hb1 1, via h166 ⟨g, s, r, a, v, rfl, hP2, hA2, hsm, hw, _, rfl, ?_⟩⟩
  rw [w3]
  refine via h203 ⟨g, s, r, a, _, rfl, hP2, hA2, hw, hT, _, rfl, (textL a.ws (whereW a.ws v.2)).length + 1, ?_⟩
  exact (loopH t (m := m2) (text_len hT) (fun M hM => ret_intro (Mem.le_trans hle2 hM) hQ) _ 0 (by omega) 5381 (by decide) (by decide) rfl m2 (Mem.le_refl _)).2
 rw [if_neg (by simpa using c3)]; rw [if_neg c3] at hQ
 have fin : (∃ y20 : Int, Mem.cell? m2 ⟨g1, 0, none⟩ = some (.int .i64 y20) ∧ ∃ y22 : Int, Mem.cell? m2 ⟨g1, 1, none⟩ = some (.int .i64 y22) ∧ look t 166 [.pointer (some ⟨g, 0, none⟩), .agg #[.int .i64 y20, .int .i64 y22]] m2 fun v24 m25 => (∃ y26 : Int, (v24 = .int .i64 y26 ∧ look t 102 [.pointer (some ⟨g, 0, none⟩), .int .i64 y26] m25 fun v27 m28 => (∃ y29 : Int, (∃ y30 : Int, (∃ y31 : Int, (v27 = .agg #[.int .i64 y29, .int .i64 y30, .int .i64 y31] ∧ ret Q (.int .i64 y31) m28))))))) := by
  refine ⟨_, cO hb1 0, _, cO hb1 1, via h166 ⟨g, s, r, a, v, rfl, hP2, hA2, hsm, hw, _, rfl, ?_⟩⟩
  rw [w3]
  exact via h102 ⟨g, s, r, a, _, rfl, ⟨hP2, hA2, hw, w1, w2⟩, _, _, _, rfl, ret_intro hle2 hQ⟩
 by_cases c4 : v.1 = 4
 ·rw [if_pos (by simpa using c4)]; exact fin
 rw [if_neg (by simpa using c4)]
 by_cases c5 : v.1 = 5
 ·rw [if_pos (by simpa using c5)]; exact fin
 rw [if_neg (by simpa using c5), if_pos (by simp; omega)]
 exact fin
theorem hash_nn {a : Ar} {v : Vl} (hw : a.wf) (h : KeyOk a v) : 0 ≤ hashA a.ws v := by
 unfold hashA
 have t0 := h.t0
 have t1 := h.t1
 have hok := h.ok
 by_cases c1 : v.1 = 1
 ·rw [if_pos c1]
  unfold valOkB at hok
  rw [c1] at hok
  simp at hok
  exact hok.1
 rw [if_neg c1]
 by_cases c2 : v.1 = 2
 ·rw [if_pos c2]; omega
 rw [if_neg c2]
 by_cases c7 : v.1 = 7
 ·rw [if_pos c7]; have := val_small hok c7; omega
 rw [if_neg c7]
 by_cases c3 : v.1 = 3
 ·rw [if_pos c3]; exact (foldH_range _ 5381 (by decide) (by decide)).1
 rw [if_neg c3]
 unfold lookW readH
 split
 ·exact (hdW_range (gw_in hw.w _)).2.2.2.2.1
 ·exact Int.le_refl _
def sameT (ws : List U64) (p q : Int) : Bool := ByteArray.toList (textS ws p) == ByteArray.toList (textS ws q)
def sameA (ws : List U64) (v w : Vl) : Bool := if v.1 = w.1 then if isRefB v then if v.1 = 3 then sameT ws (whereW ws v.2) (whereW ws w.2) else whereW ws v.2 == whereW ws w.2 else v.2 == w.2 else false
def s151 : Spec := fun args m Q => ∃ (s r : Sl) (a : Ar) (v w : Vl), args = [vA s r a, vVl v, vVl w] ∧ ArAt m s r a ∧ a.wf ∧ KeyOk a v ∧ KeyOk a w ∧ Q (.bool (sameA a.ws v w)) m
theorem isRef_tag {v w : Vl} (h : v.1 = w.1) : isRefB v = isRefB w := by unfold isRefB; rw [h]
theorem f151 (t : Tab) (h142 : look t 142 = s142) (h113 : look t 113 = s113) (h110 : look t 110 = s110) : Mt t s151 kp151 Tryz.f151 := by
 rintro args m Q ⟨s, r, a, v, w, rfl, hA, hw, hK, hK', hQ⟩
 show FA _ _ _ _ [aG s r a, .agg #[.int .i64 v.1, .int .i64 v.2], .agg #[.int .i64 w.1, .int .i64 w.2]] m Q
 rw [e151]
 unfold sameA at hQ
 refine newA_intro fun g1 m2 hg1 e2 hb1 hle2 => newA_intro fun g3 m4 hg3 e4 hb3 hle4 => newA_intro fun g5 m6 hg5 e6 hb5 hle6 => ⟨_, cO (hle6 _ _ hb3) 0, _, cO hb5 0, ?_⟩
 have hb1 := hle6 _ _ (hle4 _ _ hb1)
 have hb3 := hle6 _ _ hb3
 have l6 := Mem.le_trans hle2 (Mem.le_trans hle4 hle6)
 have hA6 := hA.le l6
 by_cases c : v.1 = w.1
 case neg => rw [if_pos (by simpa using c)]; rw [if_neg c] at hQ; exact ret_intro l6 hQ
 rw [if_neg (by simpa using c)]
 rw [if_pos c] at hQ
 refine ⟨_, cO hb3 0, _, cO hb3 1, via h110 ⟨v, rfl, _, rfl, ?_⟩⟩
 cases hr : isRefB v with
 | false => rw [if_pos (by decide)]; rw [hr, if_neg (by decide)] at hQ; exact ⟨_, cO hb3 1, _, cO hb5 1, ret_intro l6 hQ⟩
 | true =>
  rw [if_neg (by decide)]
  rw [hr, if_pos rfl] at hQ
  have hr' : isRefB w = true := by rw [← isRef_tag c]; exact hr
  obtain ⟨w0, w1, w2, w3⟩ := hK.r hr
  obtain ⟨x0, x1, x2, x3⟩ := hK'.r hr'
  have hp := ref_pos hK.ok hr
  have hp' := ref_pos hK'.ok hr'
  refine ⟨Mem.le m6, Mem.le_refl _, _, _, _, held (cO hb1 0), _, held (cO hb1 1), _, held (cO hb1 2), _, held (cO hb1 3), _, held (cO hb1 4), _, held (cO hb1 5), _, held (cO hb1 6), _, held (cO hb1 7), _, held (cO hb1 8), _, _, _, held (cO hb1 9), _, held (cO hb3 1), _, _, _, held (cO hb1 0), _, held (cO hb1 1), _, held (cO hb1 2), _, held (cO hb1 3), _, held (cO hb1 4), _, held (cO hb1 5), _, held (cO hb1 6), _, held (cO hb1 7), _, held (cO hb1 8), _, _, _, held (cO hb1 9), _, held (cO hb5 1), via h113 ⟨s, r, a, _, rfl, ⟨hA6, hw, by omega, w0⟩, _, rfl, Mem.le_refl _, via h113 ⟨s, r, a, _, rfl, ⟨hA6, hw, by omega, x0⟩, _, rfl, Mem.le_refl _, _, cO hb3 0, ?_⟩⟩⟩
  by_cases c3 : v.1 = 3
  ·rw [if_pos (by simpa using c3)]; rw [if_pos c3] at hQ
   exact ⟨Mem.le m6, Mem.le_refl _, _, _, _, held (cO hb1 0), _, held (cO hb1 1), _, held (cO hb1 2), _, held (cO hb1 3), _, held (cO hb1 4), _, held (cO hb1 5), _, held (cO hb1 6), _, held (cO hb1 7), _, held (cO hb1 8), _, _, _, held (cO hb1 9), _, _, _, held (cO hb1 0), _, held (cO hb1 1), _, held (cO hb1 2), _, held (cO hb1 3), _, held (cO hb1 4), _, held (cO hb1 5), _, held (cO hb1 6), _, held (cO hb1 7), _, held (cO hb1 8), _, _, _, held (cO hb1 9), via h142 ⟨s, r, a, _, rfl, hA6, hw, hK.s c3, _, rfl, Mem.le_refl _, via h142 ⟨s, r, a, _, rfl, hA6, hw, hK'.s (c ▸ c3), _, rfl, Mem.le_refl _, ret_intro l6 hQ⟩⟩⟩
  ·rw [if_neg (by simpa using c3)]; rw [if_neg c3] at hQ
   exact ret_intro l6 hQ
def s228 : Spec := fun args m Q => ∃ (g : Nat) (s r : Sl) (a : Ar) (v w : Vl), args = [.pointer (some ⟨g, 0, none⟩), vVl v, vVl w] ∧ Ptr m g s r a ∧ ArAt m s r a ∧ a.sm ∧ a.wf ∧ KeyOk a v ∧ KeyOk a w ∧ Q (.bool (sameA a.ws v w)) m
theorem f228 (t : Tab) (h203 : look t 203 = s203) (h166 : look t 166 = s166) (h148 : look t 148 = s148) : Mt t s228 kp228 Tryz.f228 := by
 rintro args m Q ⟨g, s, r, a, v, w, rfl, hP, hA, hsm, hw, hK, hK', hQ⟩
 show FA _ _ _ _ [.pointer (some ⟨g, 0, none⟩), .agg #[.int .i64 v.1, .int .i64 v.2], .agg #[.int .i64 w.1, .int .i64 w.2]] m Q
 rw [e228]
 unfold sameA at hQ
 refine newA_intro fun g1 m2 hg1 e2 hb1 hle2 => newA_intro fun g3 m4 hg3 e4 hb3 hle4 => ⟨_, cO (hle4 _ _ hb1) 0, _, cO hb3 0, ?_⟩
 have hb1 := hle4 _ _ hb1
 have l4 := Mem.le_trans hle2 hle4
 have hA4 := hA.le l4
 have hP4 : Ptr m4 g s r a := l4 _ _ hP
 by_cases c : v.1 = w.1
 case neg => rw [if_pos (by simpa using c)]; rw [if_neg c] at hQ; exact ret_intro l4 hQ
 rw [if_neg (by simpa using c)]
 rw [if_pos c] at hQ
 refine ⟨_, cO hb1 0, _, cO hb1 1, via h148 ⟨v, rfl, _, rfl, ?_⟩⟩
 cases hr : isRefB v with
 | false => rw [if_pos (by decide)]; rw [hr, if_neg (by decide)] at hQ; exact ⟨_, cO hb1 1, _, cO hb3 1, ret_intro l4 hQ⟩
 | true =>
  rw [if_neg (by decide)]
  rw [hr, if_pos rfl] at hQ
  have hr' : isRefB w = true := by rw [← isRef_tag c]; exact hr
  obtain ⟨w0, w1, w2, w3⟩ := hK.r hr
  obtain ⟨x0, x1, x2, x3⟩ := hK'.r hr'
  refine ⟨Mem.le m4, Mem.le_refl _, _, held (cO hb1 0), _, held (cO hb1 1), _, held (cO hb3 0), _, held (cO hb3 1), via h166 ⟨g, s, r, a, v, rfl, hP4, hA4, hsm, hw, _, rfl, Mem.le_refl _, via h166 ⟨g, s, r, a, w, rfl, hP4, hA4, hsm, hw, _, rfl, Mem.le_refl _, ?_⟩⟩⟩
  rw [w3, x3]
  by_cases ce : whereW a.ws v.2 = whereW a.ws w.2
  ·rw [if_pos (by simpa using ce)]
   rw [ce] at hQ
   have : (if v.1 = 3 then sameT a.ws (whereW a.ws w.2) (whereW a.ws w.2) else whereW a.ws w.2 == whereW a.ws w.2) = true := by split <;> simp [sameT]
   rw [this] at hQ
   exact ret_intro l4 hQ
  ·rw [if_neg (by simpa using ce)]
   refine ⟨_, cO hb1 0, ?_⟩
   by_cases c3 : v.1 = 3
   ·rw [if_pos (by simpa using c3)]; rw [if_pos c3] at hQ
    exact via h203 ⟨g, s, r, a, _, rfl, hP4, hA4, hw, hK.s c3, _, rfl, via h203 ⟨g, s, r, a, _, rfl, hP4, hA4, hw, hK'.s (c ▸ c3), _, rfl, ret_intro l4 hQ⟩⟩
   ·rw [if_neg (by simpa using c3)]; rw [if_neg c3, show (whereW a.ws v.2 == whereW a.ws w.2) = false from by simpa using ce] at hQ
    exact ret_intro l4 hQ
def s178 : Spec := fun args m Q => ∃ (s r : Sl) (a : Ar) (b i : Int), args = [vA s r a, .int .i64 b, .int .i64 i] ∧ ArAt m s r a ∧ a.wf ∧ 0 ≤ b ∧ 0 ≤ i ∧ b + 1 + 4 * i + 1 < a.ws.length ∧ Q (vVl (readV a.ws (b + 1 + 4 * i)).1) m
theorem f178 (t : Tab) (h112 : look t 112 = s112) : Mt t s178 kp178 Tryz.f178 := by
 rintro args m Q ⟨s, r, a, b, i, rfl, hA, hw, b0, i0, bi, hQ⟩
 show FA _ _ _ _ [aG s r a, .int .i64 b, .int .i64 i] m Q
 rw [e178]
 have hn := hA.n
 have hN := hw.n
 rw [w64 (x := b + 1) (by omega) (by omega), w64 (x := 4 * i) (by omega) (by omega), w64 (x := b + 1 + 4 * i) (by omega) (by omega)]
 refine newA_intro fun g1 m2 hg1 e2 hb1 hle2 => newA_intro fun g3 m4 hg3 e4 hb3 hle4 => ⟨_, _, _, cO (hle4 _ _ hb1) 0, via h112 ⟨s, a.ws, _, rfl, hn, hA.w.le (Mem.le_trans hle2 hle4), hw.w, hN, by omega, by omega, _, _, _, rfl, newA_intro fun g14 m15 hg14 e15 hb14 hle15 => ?_⟩⟩
 refine sto (c := #[.int .i64 0, .int .i64 0]) (t := 75) hb14 rfl (by simp) fun m16 e16 h16 hne16 => ?_
 have h16 : m16 g14 = some (.cells #[.int .i64 (readV a.ws (b + 1 + 4 * i)).1.1, .int .i64 (readV a.ws (b + 1 + 4 * i)).1.2] 75 (0, 0)) := h16
 have n1 : g3 ≠ g14 := ne_of_none hg14 hb3
 have b1 : m16 g3 = some (.cells #[.int .i64 0, .int .i64 0] 75 (0, 0)) := by rw [hne16 _ n1]; exact hle15 _ _ hb3
 refine ⟨_, cO h16 0, _, cO h16 1, sto (c := #[.int .i64 0, .int .i64 0]) (t := 75) b1 rfl (by simp) fun m21 e21 h21 hne21 => ?_⟩
 have h21 : m21 g3 = some (.cells #[.int .i64 (readV a.ws (b + 1 + 4 * i)).1.1, .int .i64 (readV a.ws (b + 1 + 4 * i)).1.2] 75 (0, 0)) := h21
 have l4 : Mem.le m2 m16 := le_other (Mem.le_trans hle4 hle15) (le_none hle4 hg14) hne16
 exact ⟨_, cO h21 0, _, cO h21 1, ret_intro (Mem.le_trans hle2 (le_other l4 hg3 hne21)) hQ⟩
def findG (ws : List U64) (b n : Int) (key : Vl) : Nat → Int → Int × Bool
 | 0, _ => (-1, false)
 | f + 1, i => if (valW ws (b + 1 + 4 * i)).1 = 0 then (i, false) else if sameA ws (valW ws (b + 1 + 4 * i)) key then (i, true) else findG ws b n key f ((i + 1) % n)
def findA (ws : List U64) (b n : Int) (key : Vl) : Int × Bool := if key.1 = 0 then (-1, false) else findG ws b n key n.toNat (hashA ws key % n)
structure BlkOk (a : Ar) (b n : Int) : Prop where
 b0 : 0 ≤ b
 n1 : 1 ≤ n
 n2 : n ≤ 64
 bn : b + 4 * n < a.ws.length
 k : ∀ i : Int, 0 ≤ i → i < n → valOkB (valW a.ws (b + 1 + 4 * i)) = true ∧ ((valW a.ws (b + 1 + 4 * i)).1 = 0 ∨ KeyOk a (valW a.ws (b + 1 + 4 * i)))
theorem BlkOk.read {a : Ar} {b n i : Int} (h : BlkOk a b n) (i0 : 0 ≤ i) (i1 : i < n) : readV a.ws (b + 1 + 4 * i) = (valW a.ws (b + 1 + 4 * i), true) := by unfold readV; rw [(h.k i i0 i1).1]; rfl
theorem loopF (t : Tab) (h178 : look t 178 = s178) (h151 : look t 151 = s151) {Q : Value → Mem → Prop} {s r : Sl} {a : Ar} {b n : Int} {key : Vl} {g gk : Nat} {m : Mem} {res : Int × Bool} (hw : a.wf) (hB : BlkOk a b n) (hK : KeyOk a key) (hP : Ptr m g s r a) (hA : ArAt m s r a) (hk : m gk = some (.cells #[.int .i64 key.1, .int .i64 key.2] 75 (0, 0)))
  (hQ : ∀ M, Mem.le m M → ret Q (.tuple #[.int .i64 res.1, .bool res.2]) M) :
  ∀ (d j : Nat), (j : Int) + d = n → ∀ (i : Int), 0 ≤ i → i < n → findG a.ws b n key d i = res → ∀ M : Mem, Mem.le m M → L179_5 (look t) (d + 1) Q b n g gk i (j : Int) M := by
 intro d
 have hN := hw.n
 have hn := hA.n
 have b0 := hB.b0
 have bn := hB.bn
 have n2 := hB.n2
 induction d with
 | zero =>
  intro j hj i i0 i1 he M hle
  rw [l179_5]
  refine ⟨M, Mem.le_refl _, ?_⟩
  rw [if_neg (by simp; omega)]
  have he : ((-1 : Int), false) = res := he
  subst he
  exact hQ M hle
 | succ d ih =>
  intro j hj i i0 i1 he M hle
  have hb1 := hle _ _ hP
  have hA := hA.le hle
  rw [l179_5]
  refine ⟨M, Mem.le_refl _, ?_⟩
  rw [if_pos (by simp; omega)]
  obtain ⟨v1, v2⟩ := hB.k i i0 i1
  refine ⟨_, _, _, cO hb1 0, _, cO hb1 1, _, cO hb1 2, _, cO hb1 3, _, cO hb1 4, _, cO hb1 5, _, cO hb1 6, _, cO hb1 7, _, cO hb1 8, _, _, _, cO hb1 9, via h178 ⟨s, r, a, b, i, rfl, hA, hw, b0, i0, by omega, _, _, rfl, newA_intro fun g8 m9 hg8 e9 hb8 hle9 => sto (c := #[.int .i64 0, .int .i64 0]) (t := 75) hb8 rfl (by simp) fun m10 e10 h10 hne10 => ?_⟩⟩
  have h10 : m10 g8 = some (.cells #[.int .i64 (readV a.ws (b + 1 + 4 * i)).1.1, .int .i64 (readV a.ws (b + 1 + 4 * i)).1.2] 75 (0, 0)) := h10
  rw [hB.read i0 i1] at h10
  have l10 : Mem.le M m10 := le_other hle9 hg8 hne10
  refine ⟨_, cO h10 0, ?_⟩
  unfold findG at he
  by_cases c0 : (valW a.ws (b + 1 + 4 * i)).1 = 0
  ·rw [if_pos c0] at he
   subst he
   rw [if_pos (by simpa using c0)]
   exact hQ _ (Mem.le_trans hle l10)
  rw [if_neg (by simpa using c0)]
  rw [if_neg c0] at he
  have hb1 := l10 _ _ hb1
  have hk1 := l10 _ _ (hle _ _ hk)
  refine ⟨_, _, _, cO hb1 0, _, cO hb1 1, _, cO hb1 2, _, cO hb1 3, _, cO hb1 4, _, cO hb1 5, _, cO hb1 6, _, cO hb1 7, _, cO hb1 8, _, _, _, cO hb1 9, _, cO h10 0, _, cO h10 1, _, cO hk1 0, _, cO hk1 1, via h151 ⟨s, r, a, valW a.ws (b + 1 + 4 * i), key, rfl, hA.le l10, hw, v2.resolve_left c0, hK, _, rfl, ?_⟩⟩
  cases hs : sameA a.ws (valW a.ws (b + 1 + 4 * i)) key with
  | true =>
   rw [hs, if_pos rfl] at he
   subst he
   rw [if_pos rfl]
   exact hQ _ (Mem.le_trans hle l10)
  | false =>
   rw [hs, if_neg (by decide)] at he
   rw [if_neg (by decide), w64 (x := i + 1) (by omega) (by omega), Int.tmod_eq_emod_of_nonneg (by omega), wsucc (n := 64) (by omega) (by decide)]
   refine ⟨by omega, ih (j + 1) (by omega) _ (Int.emod_nonneg _ (by omega)) (Int.emod_lt_of_pos _ (by omega)) he m10 (Mem.le_trans hle l10)⟩
theorem loopE (t : Tab) (h167 : look t 167 = s167) (h228 : look t 228 = s228) {Q : Value → Mem → Prop} {s r : Sl} {a : Ar} {b n : Int} {key : Vl} {g gk : Nat} {m : Mem} {res : Int × Bool} (hw : a.wf) (hsm : a.sm) (hB : BlkOk a b n) (hK : KeyOk a key) (hP : Ptr m g s r a) (hA : ArAt m s r a) (hk : m gk = some (.cells #[.int .i64 key.1, .int .i64 key.2] 75 (0, 0)))
  (hQ : ∀ M, Mem.le m M → ret Q (.tuple #[.int .i64 res.1, .bool res.2]) M) :
  ∀ (d j : Nat), (j : Int) + d = n → ∀ (i : Int), 0 ≤ i → i < n → findG a.ws b n key d i = res → ∀ M : Mem, Mem.le m M → L211_4 (look t) (d + 1) Q g b gk n i n (j : Int) M := by
 intro d
 have hN := hw.n
 have hn := hA.n
 have b0 := hB.b0
 have bn := hB.bn
 have n2 := hB.n2
 induction d with
 | zero =>
  intro j hj i i0 i1 he M hle
  rw [l211_4]
  refine ⟨M, Mem.le_refl _, ?_⟩
  rw [if_neg (by simp; omega)]
  have he : ((-1 : Int), false) = res := he
  subst he
  exact hQ M hle
 | succ d ih =>
  intro j hj i i0 i1 he M hle
  have hb1 := hle _ _ hP
  have hA := hA.le hle
  rw [l211_4]
  refine ⟨M, Mem.le_refl _, ?_⟩
  rw [if_pos (by simp; omega), w64 (x := b + 1) (by omega) (by omega), w64 (x := 4 * i) (by omega) (by omega), w64 (x := b + 1 + 4 * i) (by omega) (by omega)]
  obtain ⟨v1, v2⟩ := hB.k i i0 i1
  refine via h167 ⟨g, s, r, a, _, rfl, ⟨hb1, hA, hw, by omega, by omega⟩, by omega, _, _, rfl, newA_intro fun g8 m9 hg8 e9 hb8 hle9 => sto (c := #[.int .i64 0, .int .i64 0]) (t := 75) hb8 rfl (by simp) fun m10 e10 h10 hne10 => ?_⟩
  have h10 : m10 g8 = some (.cells #[.int .i64 (valW a.ws (b + 1 + 4 * i)).1, .int .i64 (valW a.ws (b + 1 + 4 * i)).2] 75 (0, 0)) := h10
  have l10 : Mem.le M m10 := le_other hle9 hg8 hne10
  refine ⟨_, cO h10 0, ?_⟩
  unfold findG at he
  by_cases c0 : (valW a.ws (b + 1 + 4 * i)).1 = 0
  ·rw [if_pos c0] at he
   subst he
   rw [if_pos (by simpa using c0)]
   exact hQ _ (Mem.le_trans hle l10)
  rw [if_neg (by simpa using c0)]
  rw [if_neg c0] at he
  have hk1 := l10 _ _ (hle _ _ hk)
  refine ⟨_, cO h10 0, _, cO h10 1, _, cO hk1 0, _, cO hk1 1, via h228 ⟨g, s, r, a, valW a.ws (b + 1 + 4 * i), key, rfl, l10 _ _ hb1, hA.le l10, hsm, hw, v2.resolve_left c0, hK, _, rfl, ?_⟩⟩
  cases hs : sameA a.ws (valW a.ws (b + 1 + 4 * i)) key with
  | true =>
   rw [hs, if_pos rfl] at he
   subst he
   rw [if_pos rfl]
   exact hQ _ (Mem.le_trans hle l10)
  | false =>
   rw [hs, if_neg (by decide)] at he
   rw [if_neg (by decide), w64 (x := i + 1) (by omega) (by omega), Int.tmod_eq_emod_of_nonneg (by omega), wsucc (n := 64) (by omega) (by decide)]
   refine ⟨by omega, ih (j + 1) (by omega) _ (Int.emod_nonneg _ (by omega)) (Int.emod_lt_of_pos _ (by omega)) he m10 (Mem.le_trans hle l10)⟩
def s179 : Spec := fun args m Q => ∃ (s r : Sl) (a : Ar) (b n : Int) (key : Vl), args = [vA s r a, .int .i64 b, .int .i64 n, vVl key] ∧ ArAt m s r a ∧ a.wf ∧ (n = 0 ∨ BlkOk a b n ∧ (key.1 = 0 ∨ KeyOk a key)) ∧ Q (.tuple #[.int .i64 (findA a.ws b n key).1, .bool (findA a.ws b n key).2]) m
theorem f179 (t : Tab) (h178 : look t 178 = s178) (h151 : look t 151 = s151) (h221 : look t 221 = s221) : Mt t s179 kp179 Tryz.f179 := by
 rintro args m Q ⟨s, r, a, b, n, key, rfl, hA, hw, hB, hQ⟩
 show FA _ _ _ _ [aG s r a, .int .i64 b, .int .i64 n, .agg #[.int .i64 key.1, .int .i64 key.2]] m Q
 rw [e179]
 unfold findA at hQ
 refine newA_intro fun g1 m2 hg1 e2 hb1 hle2 => newA_intro fun g3 m4 hg3 e4 hb3 hle4 => ?_
 have hb1 := hle4 _ _ hb1
 have l4 := Mem.le_trans hle2 hle4
 rcases hB with rfl | ⟨hB, hK⟩
 ·rw [if_pos (by simp)]
  exact ret_intro l4 (by split at hQ <;> exact hQ)
 have n1 := hB.n1
 rw [if_neg (by simp; omega)]
 refine ⟨_, cO hb3 0, ?_⟩
 by_cases c : key.1 = 0
 ·rw [if_pos (by simpa using c)]
  rw [if_pos c] at hQ
  exact ret_intro l4 hQ
 rw [if_neg (by simpa using c)]
 rw [if_neg c] at hQ
 have hK := hK.resolve_left c
 have h0 := hash_nn hw hK
 refine ⟨_, _, _, cO hb1 0, _, cO hb1 1, _, cO hb1 2, _, cO hb1 3, _, cO hb1 4, _, cO hb1 5, _, cO hb1 6, _, cO hb1 7, _, cO hb1 8, _, _, _, cO hb1 9, _, cO hb3 0, _, cO hb3 1, via h221 ⟨s, r, a, key, rfl, hA.le l4, hw, hK, _, rfl, by omega, n.toNat + 1, ?_⟩⟩
 rw [Int.tmod_eq_emod_of_nonneg h0]
 exact loopF t h178 h151 (s := s) (r := r) hw hB hK hb1 (hA.le l4) hb3 (fun M hM => ret_intro (Mem.le_trans l4 hM) hQ) n.toNat 0 (by omega) _ (Int.emod_nonneg _ (by omega)) (Int.emod_lt_of_pos _ (by omega)) rfl m4 (Mem.le_refl _)
def s211 : Spec := fun args m Q => ∃ (g : Nat) (s r : Sl) (a : Ar) (b n : Int) (key : Vl), args = [.pointer (some ⟨g, 0, none⟩), .int .i64 b, vVl key] ∧ Ptr m g s r a ∧ ArAt m s r a ∧ a.sm ∧ a.wf ∧ BlkOk a b n ∧ n = (lookW a.ws b).2.1 / 4 ∧ KeyOk a key ∧ Q (.tuple #[.int .i64 (findA a.ws b n key).1, .bool (findA a.ws b n key).2]) m
theorem f211 (t : Tab) (h167 : look t 167 = s167) (h228 : look t 228 = s228) (h227 : look t 227 = s227) (h102 : look t 102 = s102) : Mt t s211 kp211 Tryz.f211 := by
 rintro args m Q ⟨g, s, r, a, b, n, key, rfl, hP, hA, hsm, hw, hB, hn4, hK, hQ⟩
 show FA _ _ _ _ [.pointer (some ⟨g, 0, none⟩), .int .i64 b, .agg #[.int .i64 key.1, .int .i64 key.2]] m Q
 rw [e211]
 have n1 := hB.n1
 have n2 := hB.n2
 have t0 := hK.t0
 have bn := hB.bn
 unfold findA at hQ
 rw [if_neg (by omega)] at hQ
 have h0 := hash_nn hw hK
 refine newA_intro fun g1 m2 hg1 e2 hb1 hle2 => via h102 ⟨g, s, r, a, b, rfl, ⟨hle2 _ _ hP, hA.le hle2, hw, hB.b0, by omega⟩, _, _, _, rfl, by decide, _, cO hb1 0, _, cO hb1 1, via h227 ⟨g, s, r, a, key, rfl, hle2 _ _ hP, hA.le hle2, hsm, hw, hK, _, rfl, ?_⟩⟩
 rw [Int.tdiv_eq_ediv_of_nonneg (by omega), ← hn4, w64 (x := n) (by omega) (by omega)]
 refine ⟨by omega, n.toNat + 1, ?_⟩
 rw [Int.tmod_eq_emod_of_nonneg h0]
 exact loopE t h167 h228 (s := s) (r := r) hw hsm hB hK (hle2 _ _ hP) (hA.le hle2) hb1 (fun M hM => ret_intro (Mem.le_trans hle2 hM) hQ) n.toNat 0 (by omega) _ (Int.emod_nonneg _ (by omega)) (Int.emod_lt_of_pos _ (by omega)) rfl m2 (Mem.le_refl _)
def usedW (ws : List U64) (b : Int) : Nat → Int
 | 0 => 0
 | n + 1 => usedW ws b n + (if gw ws (b + 1 + 4 * (n : Int)) = 0 then 0 else 1)
theorem usedW_range (ws : List U64) (b : Int) : ∀ n : Nat, 0 ≤ usedW ws b n ∧ usedW ws b n ≤ n
 | 0 => ⟨Int.le_refl _, Int.le_refl _⟩
 | n + 1 => by
  have := usedW_range ws b n
  unfold usedW
  split <;> omega
def s177 : Spec := fun args m Q => ∃ (s r : Sl) (a : Ar) (b : Int) (n : Nat), args = [vA s r a, .int .i64 b] ∧ ArAt m s r a ∧ a.wf ∧ 0 ≤ b ∧ n ≤ 64 ∧ (n : Int) = (lookW a.ws b).2.1 / 4 ∧ 0 ≤ (lookW a.ws b).2.1 ∧ b + 4 * (n : Int) < a.ws.length ∧ Q (.tuple #[.int .i64 (usedW a.ws b n), .int .i64 n]) m
theorem f177 (t : Tab) (h90 : look t 90 = s90) : Mt t s177 kp177 Tryz.f177 := by
 rintro args m Q ⟨s, r, a, b, n, rfl, hA, hw, b0, n64, hn4, hz, bn, hQ⟩
 show FA _ _ _ _ [aG s r a, .int .i64 b] m Q
 rw [e177]
 have hn := hA.n
 have hN := hw.n
 refine newA_intro fun g1 m2 hg1 e2 hb1 hle2 => ⟨_, _, _, cO hb1 0, _, cO hb1 1, _, cO hb1 2, _, cO hb1 3, _, cO hb1 4, _, cO hb1 5, _, cO hb1 6, _, cO hb1 7, _, cO hb1 8, _, _, _, cO hb1 9, via h90 ⟨s, r, a, b, rfl, ⟨hA.le hle2, hw, b0, by omega⟩, _, _, _, rfl, by decide, n + 1, ?_⟩⟩
 have hP : Ptr m2 g1 s r a := hb1
 have hA2 := hA.le hle2
 rw [Int.tdiv_eq_ediv_of_nonneg hz, ← hn4, w64 (x := (n : Int)) (by omega) (by omega)]
 suffices key : ∀ d i : Nat, i + d = n → L177_4 (look t) (d + 1) Q b g1 (n : Int) (usedW a.ws b i) (i : Int) m2 from key n 0 (by omega)
 intro d
 induction d with
 | zero =>
  intro i hi
  have : i = n := by omega
  subst this
  rw [l177_4]
  refine ⟨m2, Mem.le_refl _, ?_⟩
  rw [if_neg (by simp)]
  exact ret_intro hle2 hQ
 | succ d ih =>
  intro i hi
  have ur := usedW_range a.ws b i
  have nx := ih (i + 1) (by omega)
  unfold usedW at nx
  rw [l177_4]
  refine ⟨m2, Mem.le_refl _, ?_⟩
  rw [if_pos (by simp; omega)]
  refine ⟨_, _, _, cO hP 0, ?_⟩
  rw [w64 (x := b + 1) (by omega) (by omega), w64 (x := 4 * (i : Int)) (by omega) (by omega), w64 (x := b + 1 + 4 * (i : Int)) (by omega) (by omega), w64 (x := usedW a.ws b i + 1) (by omega) (by omega), wsucc (n := 64) (by omega) (by decide)]
  refine wd hA2.w hn (by omega) (by omega) fun ad had hd => ⟨_, hd _ (Mem.le_refl _), ?_⟩
  by_cases c : gw a.ws (b + 1 + 4 * (i : Int)) = 0
  ·rw [if_neg (by simpa using c)]
   rw [if_pos c, Int.add_zero] at nx
   exact nx
  ·rw [if_pos (by simpa using c)]
   rw [if_neg c] at nx
   exact nx
def entP (ws : List U64) (b n i : Int) : Prop := (valW ws (b + 1 + 4 * i)).1 ≠ 0 → findA ws b n (valW ws (b + 1 + 4 * i)) = (i, true)
def blkN (ws : List U64) (b : Int) : Int := (lookW ws b).2.1 / 4
def tabP (ws : List U64) (p : Int) (had : List Int) : Prop :=
 if (valW ws (p + 2)).1 = 0 then gw ws (p + 1) = 0 else
  (valW ws (p + 2)).1 = 8 ∧ whereW ws (valW ws (p + 2)).2 ∉ had ∧ (∀ i : Int, 0 ≤ i → i < blkN ws (whereW ws (valW ws (p + 2)).2) → entP ws (whereW ws (valW ws (p + 2)).2) (blkN ws (whereW ws (valW ws (p + 2)).2)) i) ∧
   gw ws (p + 1) = usedW ws (whereW ws (valW ws (p + 2)).2) (blkN ws (whereW ws (valW ws (p + 2)).2)).toNat ∧ 4 * gw ws (p + 1) ≤ 3 * blkN ws (whereW ws (valW ws (p + 2)).2)
def hadN (ws : List U64) (p : Int) (had : List Int) : List Int := if (valW ws (p + 2)).1 = 0 then had else whereW ws (valW ws (p + 2)).2 :: had
theorem findG_false {ws : List U64} {b n : Int} {key : Vl} : ∀ (f : Nat) (i : Int), (findG ws b n key f i).2 = false → (findG ws b n key f i).1 = -1 ∨ (valW ws (b + 1 + 4 * (findG ws b n key f i).1)).1 = 0
 | 0, i, _ => .inl rfl
 | f + 1, i, h => by
  unfold findG at h ⊢
  by_cases c : (valW ws (b + 1 + 4 * i)).1 = 0
  ·rw [if_pos c]; exact .inr c
  ·rw [if_neg c] at h ⊢
   by_cases c2 : sameA ws (valW ws (b + 1 + 4 * i)) key = true
   ·rw [if_pos c2] at h; cases h
   ·rw [if_neg c2] at h ⊢
    exact findG_false f _ h
theorem findA_ok {ws : List U64} {b n i : Int} {key : Vl} (i0 : 0 ≤ i) (ht : (valW ws (b + 1 + 4 * i)).1 ≠ 0) (h : (findA ws b n key).1 = i) : (findA ws b n key).2 = true := by
 unfold findA at h ⊢
 by_cases c : key.1 = 0
 ·rw [if_pos c] at h
  have h : (-1 : Int) = i := h
  omega
 ·rw [if_neg c] at h ⊢
  cases e : (findG ws b n key n.toNat (hashA ws key % n)).2 with
  | true => rfl
  | false =>
   rcases findG_false _ _ e with k | k
   ·omega
   ·rw [h] at k; exact absurd k ht
theorem rl {m : Mem} {a : Option Addr} {l : List Bool} {i : Int} {n : Nat} {K : Addr → Prop} (h : Rd m a l) (hn : l.length = n) (h0 : 0 ≤ i) (hi : i < n)
  (hK : ∀ ad, a = some ad → (∀ q : Mem, Mem.le m q → q.cell? (ad.add (i.toNat * 1)) = some (.bool (l.getD i.toNat false))) → K ad) : optA a fun ad => 0 ≤ i ∧ i < (n : Int) ∧ K ad :=
 at1 false (fun x : Bool => .bool x) (fun _ => rfl) h hn h0 hi hK
structure TabAt (a : Ar) (p : Int) : Prop where
 p0 : 0 ≤ p
 pz : p + 3 < a.ws.length
 ok : valOkB (valW a.ws (p + 2)) = true
 b : (valW a.ws (p + 2)).1 = 8 → (valW a.ws (p + 2)).2 < a.ws.length ∧ BlkOk a (whereW a.ws (valW a.ws (p + 2)).2) (blkN a.ws (whereW a.ws (valW a.ws (p + 2)).2)) ∧ 0 ≤ (lookW a.ws (whereW a.ws (valW a.ws (p + 2)).2)).2.1 ∧ placeA a (valW a.ws (p + 2)).2 = whereW a.ws (valW a.ws (p + 2)).2
theorem loopU (t : Tab) (h178 : look t 178 = s178) (h179 : look t 179 = s179) {Q : Value → Mem → Prop} {s r : Sl} {a : Ar} {b n cnt used : Int} {g : Nat} {m : Mem} (hw : a.wf) (hB : BlkOk a b n) (hP : Ptr m g s r a) (hA : ArAt m s r a)
  (c0 : 0 ≤ cnt ∨ cnt < 0 ∧ -9223372036854775808 ≤ cnt) (u0 : 0 ≤ used ∧ used ≤ 64) {P : Prop} (no : ∀ M, Mem.le m M → ¬ P → ret Q (.bool false) M) (yes : ∀ M, Mem.le m M → P → ret Q (.bool true) M)
  (hP1 : (∀ i : Int, 0 ≤ i → i < n → entP a.ws b n i) → cnt = used → 4 * cnt ≤ 3 * n → P) (hP2 : P → (∀ i : Int, 0 ≤ i → i < n → entP a.ws b n i) ∧ cnt = used ∧ 4 * cnt ≤ 3 * n) :
  ∀ (d i : Nat), (i : Int) + d = n → (∀ j : Int, 0 ≤ j → j < i → entP a.ws b n j) → ∀ M : Mem, Mem.le m M → L91_13 (look t) (d + 1) Q g cnt b used n (i : Int) M := by
 intro d
 have hN := hw.n
 have hn := hA.n
 have b0 := hB.b0
 have bn := hB.bn
 have n2 := hB.n2
 have n1 := hB.n1
 induction d with
 | zero =>
  intro i hi hz M hle
  rw [l91_13]
  refine ⟨M, Mem.le_refl _, ?_⟩
  rw [if_neg (by simp; omega)]
  by_cases c : cnt = used
  ·rw [if_pos (by simpa using c), w64 (x := 4 * cnt) (by omega) (by omega), w64 (x := 3 * n) (by omega) (by omega)]
   by_cases c2 : 4 * cnt ≤ 3 * n
   ·rw [decide_eq_true c2]; exact yes M hle (hP1 (fun j j0 j1 => hz j j0 (by omega)) c c2)
   ·rw [decide_eq_false c2]; exact no M hle fun h => c2 (hP2 h).2.2
  ·rw [if_neg (by simpa using c)]; exact no M hle fun h => c (hP2 h).2.1
 | succ d ih =>
  intro i hi hz M hle
  have hb1 := hle _ _ hP
  have hA := hA.le hle
  have i0 : (0 : Int) ≤ i := by omega
  have i1 : (i : Int) < n := by omega
  obtain ⟨v1, v2⟩ := hB.k i i0 i1
  rw [l91_13]
  refine ⟨M, Mem.le_refl _, ?_⟩
  rw [if_pos (by simp; omega), wsucc (n := 64) (by omega) (by decide)]
  refine ⟨_, _, _, cO hb1 0, _, cO hb1 1, _, cO hb1 2, _, cO hb1 3, _, cO hb1 4, _, cO hb1 5, _, cO hb1 6, _, cO hb1 7, _, cO hb1 8, _, _, _, cO hb1 9, via h178 ⟨s, r, a, b, i, rfl, hA, hw, b0, i0, by omega, _, _, rfl, newA_intro fun g8 m9 hg8 e9 hb8 hle9 => sto (c := #[.int .i64 0, .int .i64 0]) (t := 75) hb8 rfl (by simp) fun m10 e10 h10 hne10 => ?_⟩⟩
  have h10 : m10 g8 = some (.cells #[.int .i64 (readV a.ws (b + 1 + 4 * (i : Int))).1.1, .int .i64 (readV a.ws (b + 1 + 4 * (i : Int))).1.2] 75 (0, 0)) := h10
  rw [hB.read i0 i1] at h10
  have l10 : Mem.le M m10 := le_other hle9 hg8 hne10
  have hb1 := l10 _ _ hb1
  refine ⟨_, _, _, cO hb1 0, _, cO hb1 1, _, cO hb1 2, _, cO hb1 3, _, cO hb1 4, _, cO hb1 5, _, cO hb1 6, _, cO hb1 7, _, cO hb1 8, _, _, _, cO hb1 9, _, cO h10 0, _, cO h10 1, via h179 ⟨s, r, a, b, n, valW a.ws (b + 1 + 4 * (i : Int)), rfl, hA.le l10, hw, .inr ⟨hB, v2⟩, _, _, rfl, _, cO h10 0, ?_⟩⟩
  have nx : entP a.ws b n i → L91_13 (look t) (d + 1) Q g cnt b used n ((i + 1 : Nat) : Int) m10 := by
   intro h
   refine ih (i + 1) (by omega) (fun j j0 j1 => ?_) m10 (Mem.le_trans hle l10)
   by_cases e : j = i
   ·rw [e]; exact h
   ·exact hz j j0 (by omega)
  have bad : ¬ entP a.ws b n i → ret Q (.bool false) m10 := fun h => no _ (Mem.le_trans hle l10) fun hp => h ((hP2 hp).1 i i0 i1)
  by_cases c : (valW a.ws (b + 1 + 4 * (i : Int))).1 = 0
  ·rw [if_neg (by simpa using c)]
   exact nx fun h => absurd c h
  ·rw [if_pos (by simpa using c)]
   cases hf : (findA a.ws b n (valW a.ws (b + 1 + 4 * (i : Int)))).2 with
   | false =>
    rw [if_pos (by decide)]
    exact bad fun h => by rw [h c] at hf; cases hf
   | true =>
    rw [if_neg (by decide)]
    by_cases ce : (findA a.ws b n (valW a.ws (b + 1 + 4 * (i : Int)))).1 = i
    ·rw [if_neg (by simpa using ce)]
     exact nx fun _ => Prod.ext ce hf
    ·rw [if_pos (by simpa using ce)]
     exact bad fun h => ce (by rw [h c])
def RLed (n : Nat) (led : List Bool) (had : List Int) : Prop := led.length = n ∧ ∀ x : Int, 0 ≤ x → x < n → (led.getD x.toNat false = true ↔ x ∈ had)
def s91 : Spec := fun args m Q => ∃ (s r ls : Sl) (a : Ar) (p : Int) (led : List Bool) (had : List Int) (gl : Nat) (tl : TypeId) (m0 : Mem), args = [vA s r a, .int .i64 p, vs ls] ∧ ls.a = some ⟨gl, 0, none⟩ ∧ ls.n = led.length ∧ m gl = some (.cells (flat Enc.e led ++ []).toArray tl (0, 0)) ∧ Mem.le m0 m ∧ m0 gl = none ∧ ArAt m0 s r a ∧ a.wf ∧ TabAt a p ∧ RLed a.ws.length led had ∧
 ∀ (M : Mem) (led' : List Bool), (∀ b o, b ≠ gl → m b = some o → M b = some o) → M gl = some (.cells (flat Enc.e led' ++ []).toArray tl (0, 0)) → (tabP a.ws p had → RLed a.ws.length led' (hadN a.ws p had)) → Q (.bool (pB (tabP a.ws p had))) M
theorem f91 (t : Tab) (h178 : look t 178 = s178) (h179 : look t 179 = s179) (h112 : look t 112 = s112) (h175 : look t 175 = s175) (h113 : look t 113 = s113) (h177 : look t 177 = s177) : Mt t s91 kp91 Tryz.f91 := by
 rintro args m Q ⟨s, r, ls, a, p, led, had, gl, tl, m0, rfl, hla, hln, hgl, h0, hgl0, hA0, hw, hT, hR, hQ⟩
 show FA _ _ _ _ [aG s r a, .int .i64 p, .slice ls.a ls.n ls.c] m Q
 rw [e91, hla]
 have hA := hA0.le h0
 have hn := hA.n
 have hN := hw.n
 have p0 := hT.p0
 have pz := hT.pz
 have er : readV a.ws (p + 2) = (valW a.ws (p + 2), true) := by unfold readV; rw [hT.ok]; rfl
 refine newA_intro fun g1 m2 hg1 e2 hb1 hle2 => ⟨_, _, _, cO hb1 0, ?_⟩
 rw [w64 (x := p + 2) (by omega) (by omega)]
 refine via h112 ⟨s, a.ws, _, rfl, hn, (hA.le hle2).w, hw.w, hN, by omega, by omega, _, _, _, rfl, newA_intro fun g12 m13 hg12 e13 hb12 hle13 => sto (c := #[.int .i64 0, .int .i64 0]) (t := 75) hb12 rfl (by simp) fun m14 e14 h14 hne14 => ?_⟩
 have h14 : m14 g12 = some (.cells #[.int .i64 (readV a.ws (p + 2)).1.1, .int .i64 (readV a.ws (p + 2)).1.2] 75 (0, 0)) := h14
 rw [er] at h14
 have l14 : Mem.le m2 m14 := le_other hle13 hg12 hne14
 have lm14 : Mem.le m m14 := Mem.le_trans hle2 l14
 have hb1 := l14 _ _ hb1
 refine ⟨_, _, _, cO hb1 0, _, cO hb1 1, _, cO hb1 2, _, cO hb1 3, _, cO hb1 4, _, cO hb1 5, _, cO hb1 6, _, cO hb1 7, _, cO hb1 8, _, _, _, cO hb1 9, via h175 ⟨s, r, a, p, 1, rfl, hA.le lm14, hw, p0, by decide, by omega, _, rfl, _, cO h14 0, ?_⟩⟩
 have hx := wrap_cases (gw_in hw.w (p + 1))
 have hx0 := (gw_in hw.w (p + 1)).1
 have hx1 := (gw_in hw.w (p + 1)).2
 have hcw : wordW a.ws p 1 = IntKind.i64.wrap (gw a.ws (p + 1)) := rfl
 rw [hcw]
 have hwr : -9223372036854775808 ≤ IntKind.i64.wrap (gw a.ws (p + 1)) := by
  unfold IntKind.wrap
  simp [IntKind.bits, IntKind.signed]
  omega
 have same : ∀ M, Mem.le m M → ∀ b o, b ≠ gl → m b = some o → M b = some o := fun M hM b o _ h => hM _ _ h
 have fin : ∀ (M : Mem) (c : Bool), Mem.le m M → pB (tabP a.ws p had) = c → (tabP a.ws p had → hadN a.ws p had = had) → ret Q (.bool c) M := fun M c hM hc hh => ⟨M, Mem.le_refl _, hc ▸ hQ M led (same M hM) (hM _ _ hgl) fun h => by rw [hh h]; exact hR⟩
 by_cases c0 : (valW a.ws (p + 2)).1 = 0
 ·rw [if_pos (by simpa using c0)]
  have hh : hadN a.ws p had = had := by unfold hadN; rw [if_pos c0]
  have ht : tabP a.ws p had ↔ gw a.ws (p + 1) = 0 := by unfold tabP; rw [if_pos c0]
  by_cases cz : gw a.ws (p + 1) = 0
  ·rw [show (IntKind.i64.wrap (gw a.ws (p + 1)) == 0) = true from by rw [cz]; decide]
   exact fin _ _ lm14 (pB_yes (ht.2 cz)) fun _ => hh
  ·rw [show (IntKind.i64.wrap (gw a.ws (p + 1)) == 0) = false from by rw [beq_eq_false_iff_ne]; omega]
   exact fin _ _ lm14 (pB_no fun h => cz (ht.1 h)) fun _ => hh
 rw [if_neg (by simpa using c0)]
 have ht : tabP a.ws p had ↔ ((valW a.ws (p + 2)).1 = 8 ∧ whereW a.ws (valW a.ws (p + 2)).2 ∉ had ∧ (∀ i : Int, 0 ≤ i → i < blkN a.ws (whereW a.ws (valW a.ws (p + 2)).2) → entP a.ws (whereW a.ws (valW a.ws (p + 2)).2) (blkN a.ws (whereW a.ws (valW a.ws (p + 2)).2)) i) ∧
   gw a.ws (p + 1) = usedW a.ws (whereW a.ws (valW a.ws (p + 2)).2) (blkN a.ws (whereW a.ws (valW a.ws (p + 2)).2)).toNat ∧ 4 * gw a.ws (p + 1) ≤ 3 * blkN a.ws (whereW a.ws (valW a.ws (p + 2)).2)) := by unfold tabP; rw [if_neg c0]
 refine ⟨_, cO h14 0, ?_⟩
 by_cases c8 : (valW a.ws (p + 2)).1 = 8
 case neg => rw [if_pos (by simpa using c8)]; exact fin _ _ lm14 (pB_no fun h => c8 (ht.1 h).1) fun h => absurd (ht.1 h).1 c8
 rw [if_neg (by simpa using c8)]
 obtain ⟨q1, q2, q3, q4⟩ := hT.b c8
 have hh : hadN a.ws p had = whereW a.ws (valW a.ws (p + 2)).2 :: had := by unfold hadN; rw [if_neg c0]
 have hp := ref_pos hT.ok (by unfold isRefB kindT; rw [c8]; decide)
 refine ⟨_, _, _, cO hb1 0, _, cO hb1 1, _, cO hb1 2, _, cO hb1 3, _, cO hb1 4, _, cO hb1 5, _, cO hb1 6, _, cO hb1 7, _, cO hb1 8, _, _, _, cO hb1 9, _, cO h14 1, via h113 ⟨s, r, a, (valW a.ws (p + 2)).2, rfl, ⟨hA.le lm14, hw, by omega, q1⟩, _, rfl, ?_⟩⟩
 generalize hv : valW a.ws (p + 2) = v at *
 generalize hbk : whereW a.ws v.2 = blk at *
 have b0 := q2.b0
 have bn := q2.bn
 have n1 := q2.n1
 have n2 := q2.n2
 have hlen := hR.1
 refine rl (Rd.of_block (spare := []) (lm14 _ _ hgl) (by simp)) hln.symm b0 (by omega) fun ad had_ hd => ⟨_, hd _ (Mem.le_refl _), ?_⟩
 have hbi := hR.2 blk b0 (by omega)
 cases hl : led.getD blk.toNat false with
 | true =>
  rw [if_pos rfl]
  have : blk ∈ had := hbi.1 hl
  exact fin _ _ lm14 (pB_no fun h => (ht.1 h).2.1 this) fun h => absurd this (ht.1 h).2.1
 | false =>
  rw [if_neg (by decide)]
  have hnh : blk ∉ had := fun h => by rw [hbi.2 h] at hl; cases hl
  refine po ⟨b0, by omega, sto_elem (x := true) (i := blk.toNat) (lm14 _ _ hgl) (by rw [add_eq rfl, Nat.zero_add]; rfl) (by omega) ?_⟩
  obtain ⟨M1, hM1⟩ : ∃ M1, M1 = m14.upd gl (.cells (flat Enc.e (led.set blk.toNat true) ++ []).toArray tl (0, 0)) := ⟨_, rfl⟩
  rw [← hM1]
  have k1 : M1 gl = some (.cells (flat Enc.e (led.set blk.toNat true) ++ []).toArray tl (0, 0)) := by rw [hM1]; exact upd_same _ _ _
  have k2 : ∀ b, b ≠ gl → M1 b = m14 b := fun b hb => by rw [hM1]; exact upd_ne hb
  clear hM1
  have l01 : Mem.le m0 M1 := le_other (Mem.le_trans h0 lm14) hgl0 k2
  have hg1l : g1 ≠ gl := fun e => by rw [e] at hg1; rw [hg1] at hgl; cases hgl
  have hb1 : M1 g1 = _ := (k2 g1 hg1l).trans hb1
  have hR' : RLed a.ws.length (led.set blk.toNat true) (blk :: had) := by
   refine ⟨by rw [List.length_set]; exact hlen, fun x x0 x1 => ?_⟩
   rw [List.mem_cons, List.getD_eq_getElem?_getD, List.getElem?_set]
   by_cases e : x = blk
   ·subst e
    rw [if_pos rfl, if_pos (by omega)]
    simp
   ·rw [if_neg (by omega), ← List.getD_eq_getElem?_getD, hR.2 x x0 x1]
    simp [e]
  have frame : ∀ M, Mem.le M1 M → ∀ b o, b ≠ gl → m b = some o → M b = some o := fun M hM b o hb h => hM _ _ ((k2 b hb).trans (lm14 _ _ h))
  have fin2 : ∀ (M : Mem) (c : Bool), Mem.le M1 M → pB (tabP a.ws p had) = c → ret Q (.bool c) M := fun M c hM hc => ⟨M, Mem.le_refl _, hc ▸ hQ M _ (frame M hM) (hM _ _ k1) fun _ => by rw [hh]; exact hR'⟩
  have hA1 := hA0.le l01
  refine ⟨_, _, _, cO hb1 0, _, cO hb1 1, _, cO hb1 2, _, cO hb1 3, _, cO hb1 4, _, cO hb1 5, _, cO hb1 6, _, cO hb1 7, _, cO hb1 8, _, _, _, cO hb1 9, via h177 ⟨s, r, a, blk, (blkN a.ws blk).toNat, rfl, hA1, hw, b0, by omega, by have e : blkN a.ws blk = (lookW a.ws blk).2.1 / 4 := rfl; omega, q3, by omega, _, _, rfl, (blkN a.ws blk).toNat + 1, ?_⟩⟩
  rw [show ((blkN a.ws blk).toNat : Int) = blkN a.ws blk by omega]
  have ur := usedW_range a.ws blk (blkN a.ws blk).toNat
  exact loopU t h178 h179 (s := s) (r := r) (P := tabP a.ws p had) hw q2 hb1 hA1 (by omega) ⟨by omega, by omega⟩ (fun M hM h => fin2 M _ hM (pB_no h)) (fun M hM h => fin2 M _ hM (pB_yes h))
   (fun h1 h2 h3 => ht.2 ⟨c8, hnh, h1, by omega, by omega⟩) (fun h => ⟨(ht.1 h).2.2.1, by have := (ht.1 h).2.2.2; omega, by have := (ht.1 h).2.2.2; omega⟩) (blkN a.ws blk).toNat 0 (by omega) (fun j j0 j1 => by omega) M1 (Mem.le_refl _)
theorem getM_putM (v : Value) (i j : Int) : ∀ L : List (Int × Value), getM (putM L i v) j = if j = i then some v else getM L j
 | [] => by simp [putM, getM]
 | p :: r => by
  unfold putM
  by_cases c : i = p.1
  ·rw [if_pos c]
   unfold getM
   by_cases d : j = i
   ·rw [if_pos d, if_pos d]
   ·rw [if_neg d, if_neg d, if_neg (by rw [← c]; exact d)]
  ·rw [if_neg c]
   unfold getM
   rw [getM_putM v i j r]
   by_cases d : j = p.1
   ·rw [if_pos d, if_pos d, if_neg (by rw [d]; exact fun h => c h.symm)]
   ·rw [if_neg d, if_neg d]
def HasS (m : Mem) (gm : Nat) (had : List Int) : Prop := ∃ (es : Array MapEntry) (cl : Nat) (L : List (Int × Value)), m gm = some (.map es cl) ∧ MapIs .i64 es L ∧ ∀ i : Int, (getM L i).getD (.bool false) = .bool (decide (i ∈ had))
theorem HasS.at {m M : Mem} {gm : Nat} {had : List Int} (h : HasS m gm had) (e : ∀ o, m gm = some o → M gm = some o) : HasS M gm had := by
 obtain ⟨es, cl, L, h1, h2, h3⟩ := h
 exact ⟨es, cl, L, e _ h1, h2, h3⟩
theorem hasS_put {L : List (Int × Value)} {had : List Int} (h : ∀ i : Int, (getM L i).getD (.bool false) = .bool (decide (i ∈ had))) (x : Int) : ∀ i : Int, (getM (putM L x (.bool true)) i).getD (.bool false) = .bool (decide (i ∈ x :: had)) := by
 intro i
 rw [getM_putM]
 by_cases c : i = x
 ·rw [if_pos c, c]; simp
 ·rw [if_neg c, h i]; simp [c]
theorem loopV (t : Tab) (h167 : look t 167 = s167) (h211 : look t 211 = s211) {Q : Value → Mem → Prop} {s r is : Sl} {ms mb : Option Nat} {mk : List Int} {a : Ar} {b n cnt : Int} {gs g : Nat} {m : Mem} (hw : a.wf) (hsm : a.sm) (hB : BlkOk a b n) (hn4 : n = (lookW a.ws b).2.1 / 4) (hS : Svy m gs g s r is ms mb a mk)
  {P : Prop} (no : ∀ M, Mem.le m M → ¬ P → ret Q (.bool false) M) (yes : ∀ M, Mem.le m M → P → ret Q (.bool true) M)
  (hP1 : (∀ i : Int, 0 ≤ i → i < n → entP a.ws b n i) → cnt = usedW a.ws b n.toNat → 4 * cnt ≤ 3 * n → P) (hP2 : P → (∀ i : Int, 0 ≤ i → i < n → entP a.ws b n i) ∧ cnt = usedW a.ws b n.toNat ∧ 4 * cnt ≤ 3 * n) :
  ∀ (d i : Nat), (i : Int) + d = n → (∀ j : Int, 0 ≤ j → j < i → entP a.ws b n j) → ∀ M : Mem, Mem.le m M → L184_12 (look t) (d + 1) Q gs cnt b (usedW a.ws b i) n n (i : Int) M := by
 intro d
 have hN := hw.n
 have hn := hS.a.n
 have b0 := hB.b0
 have bn := hB.bn
 have n2 := hB.n2
 have n1 := hB.n1
 induction d with
 | zero =>
  intro i hi hz M hle
  have hi2 : i = n.toNat := by omega
  have ur := usedW_range a.ws b i
  rw [l184_12]
  refine ⟨M, Mem.le_refl _, ?_⟩
  rw [if_neg (by simp; omega), u64w (x := usedW a.ws b i) (by omega) (by omega)]
  rw [← hi2] at hP1 hP2
  by_cases c : usedW a.ws b i = cnt
  ·rw [if_pos (by simpa using c), w64 (x := 4 * usedW a.ws b i) (by omega) (by omega), w64 (x := 3 * n) (by omega) (by omega)]
   by_cases c2 : 4 * usedW a.ws b i ≤ 3 * n
   ·rw [decide_eq_true c2]; exact yes M hle (hP1 (fun j j0 j1 => hz j j0 (by omega)) c.symm (by omega))
   ·rw [decide_eq_false c2]; exact no M hle fun h => by have := (hP2 h).2; omega
  ·rw [if_neg (by simpa using c)]; exact no M hle fun h => c (hP2 h).2.1.symm
 | succ d ih =>
  intro i hi hz M hle
  have hS := hS.le hle
  have i0 : (0 : Int) ≤ i := by omega
  have i1 : (i : Int) < n := by omega
  have ur := usedW_range a.ws b i
  obtain ⟨v1, v2⟩ := hB.k i i0 i1
  obtain ⟨v3, v4⟩ := valOk_w hw.w v1
  rw [l184_12]
  refine ⟨M, Mem.le_refl _, ?_⟩
  rw [if_pos (by simp; omega), wsucc (n := 64) (by omega) (by decide), w64 (x := b + 1) (by omega) (by omega), w64 (x := 4 * (i : Int)) (by omega) (by omega), w64 (x := b + 1 + 4 * (i : Int)) (by omega) (by omega), w64 (x := usedW a.ws b i + 1) (by omega) (by omega)]
  refine ⟨_, cO hS.b 0, via h167 ⟨g, s, r, a, _, rfl, ⟨hS.p, hS.a, hw, by omega, by omega⟩, by omega, _, _, rfl, newA_intro fun g8 m9 hg8 e9 hb8 hle9 => sto (c := #[.int .i64 0, .int .i64 0]) (t := 75) hb8 rfl (by simp) fun m10 e10 h10 hne10 => ?_⟩⟩
  have h10 : m10 g8 = some (.cells #[.int .i64 (valW a.ws (b + 1 + 4 * (i : Int))).1, .int .i64 (valW a.ws (b + 1 + 4 * (i : Int))).2] 75 (0, 0)) := h10
  have l10 : Mem.le M m10 := le_other hle9 hg8 hne10
  have hS10 := hS.le l10
  have nx : entP a.ws b n i → L184_12 (look t) (d + 1) Q gs cnt b (usedW a.ws b (i + 1)) n n ((i + 1 : Nat) : Int) m10 := by
   intro h
   refine ih (i + 1) (by omega) (fun j j0 j1 => ?_) m10 (Mem.le_trans hle l10)
   by_cases e : j = i
   ·rw [e]; exact h
   ·exact hz j j0 (by omega)
  have bad : ¬ entP a.ws b n i → ret Q (.bool false) m10 := fun h => no _ (Mem.le_trans hle l10) fun hp => h ((hP2 hp).1 i i0 i1)
  unfold usedW at nx
  refine ⟨_, cO h10 0, ?_⟩
  by_cases c : (valW a.ws (b + 1 + 4 * (i : Int))).1 = 0
  ·rw [if_pos (by simpa using c)]
   rw [if_pos (by omega), Int.add_zero] at nx
   exact nx fun h => absurd c h
  ·rw [if_neg (by simpa using c)]
   rw [if_neg (by omega)] at nx
   refine ⟨Mem.le m10, Mem.le_refl _, _, held (cO hS10.b 0), _, held (cO h10 0), _, held (cO h10 1), via h211 ⟨g, s, r, a, b, n, valW a.ws (b + 1 + 4 * (i : Int)), rfl, hS10.p, hS10.a, hsm, hw, hB, hn4, v2.resolve_left c, _, _, rfl, Mem.le_refl _, ?_⟩⟩
   by_cases ce : (findA a.ws b n (valW a.ws (b + 1 + 4 * (i : Int)))).1 = i
   ·rw [if_neg (by simpa using ce)]
    exact nx fun _ => Prod.ext ce (findA_ok i0 c ce)
   ·rw [if_pos (by simpa using ce)]
    exact bad fun h => ce (by rw [h c])
def s184 : Spec := fun args m Q => ∃ (gs g gm : Nat) (s r is : Sl) (ms : Option Nat) (a : Ar) (mk : List Int) (p : Int) (had : List Int) (m0 : Mem), args = [.pointer (some ⟨gs, 0, none⟩), .int .i64 p] ∧ HasS m gm had ∧ Mem.le m0 m ∧ m0 gm = none ∧ Svy m0 gs g s r is ms (some gm) a mk ∧ a.sm ∧ a.wf ∧ TabAt a p ∧ ((valW a.ws (p + 2)).1 = 0 ∨ (valW a.ws (p + 2)).1 = 8) ∧
 ∀ (M : Mem) (had' : List Int), (∀ b o, b ≠ gm → m b = some o → M b = some o) → HasS M gm had' → (tabP a.ws p had → had' = hadN a.ws p had) → Q (.bool (pB (tabP a.ws p had))) M
theorem f184 (t : Tab) (h167 : look t 167 = s167) (h211 : look t 211 = s211) (h166 : look t 166 = s166) (h102 : look t 102 = s102) : Mt t s184 kp184 Tryz.f184 := by
 rintro args m Q ⟨gs, g, gm, s, r, is, ms, a, mk, p, had, m0, rfl, hH, h0, hgm0, hS0, hsm, hw, hT, htag, hQ⟩
 rw [e184]
 have hS := hS0.le h0
 have hn := hS.a.n
 have hN := hw.n
 have p0 := hT.p0
 have pz := hT.pz
 have hx0 := (gw_in hw.w (p + 1)).1
 rw [w64 (x := p + 1) (by omega) (by omega), w64 (x := p + 2) (by omega) (by omega)]
 refine ⟨_, cO hS.b 0, po ⟨_, _, _, cO hS.p 0, wd hS.a.w hn (by omega) (by omega) fun ad had_ hd => ⟨_, hd _ (Mem.le_refl _), _, cO hS.b 0, via h167 ⟨g, s, r, a, _, rfl, ⟨hS.p, hS.a, hw, by omega, by omega⟩, by omega, _, _, rfl, newA_intro fun g17 m18 hg17 e18 hb17 hle18 => sto (c := #[.int .i64 0, .int .i64 0]) (t := 75) hb17 rfl (by simp) fun m19 e19 h19 hne19 => ?_⟩⟩⟩⟩
 have h19 : m19 g17 = some (.cells #[.int .i64 (valW a.ws (p + 2)).1, .int .i64 (valW a.ws (p + 2)).2] 75 (0, 0)) := h19
 have l19 : Mem.le m m19 := le_other hle18 hg17 hne19
 have hS19 := hS.le l19
 have hH19 : HasS m19 gm had := hH.at fun o h => l19 _ _ h
 have fin : ∀ (M : Mem) (c : Bool), Mem.le m M → pB (tabP a.ws p had) = c → (tabP a.ws p had → hadN a.ws p had = had) → ret Q (.bool c) M := fun M c hM hc hh => ⟨M, Mem.le_refl _, hc ▸ hQ M had (fun b o _ h => hM _ _ h) (hH.at fun o h => hM _ _ h) fun h => (hh h).symm⟩
 refine ⟨_, cO h19 0, ?_⟩
 by_cases c0 : (valW a.ws (p + 2)).1 = 0
 ·rw [if_pos (by simpa using c0)]
  have hh : hadN a.ws p had = had := by unfold hadN; rw [if_pos c0]
  have ht : tabP a.ws p had ↔ gw a.ws (p + 1) = 0 := by unfold tabP; rw [if_pos c0]
  by_cases cz : gw a.ws (p + 1) = 0
  ·rw [show (gw a.ws (p + 1) == 0) = true from by rw [cz]; decide]
   exact fin _ _ l19 (pB_yes (ht.2 cz)) fun _ => hh
  ·rw [show (gw a.ws (p + 1) == 0) = false from by rw [beq_eq_false_iff_ne]; exact cz]
   exact fin _ _ l19 (pB_no fun h => cz (ht.1 h)) fun _ => hh
 rw [if_neg (by simpa using c0)]
 have c8 := htag.resolve_left c0
 have ht : tabP a.ws p had ↔ ((valW a.ws (p + 2)).1 = 8 ∧ whereW a.ws (valW a.ws (p + 2)).2 ∉ had ∧ (∀ i : Int, 0 ≤ i → i < blkN a.ws (whereW a.ws (valW a.ws (p + 2)).2) → entP a.ws (whereW a.ws (valW a.ws (p + 2)).2) (blkN a.ws (whereW a.ws (valW a.ws (p + 2)).2)) i) ∧
   gw a.ws (p + 1) = usedW a.ws (whereW a.ws (valW a.ws (p + 2)).2) (blkN a.ws (whereW a.ws (valW a.ws (p + 2)).2)).toNat ∧ 4 * gw a.ws (p + 1) ≤ 3 * blkN a.ws (whereW a.ws (valW a.ws (p + 2)).2)) := by unfold tabP; rw [if_neg c0]
 obtain ⟨q1, q2, q3, q4⟩ := hT.b c8
 have hh : hadN a.ws p had = whereW a.ws (valW a.ws (p + 2)).2 :: had := by unfold hadN; rw [if_neg c0]
 refine ⟨Mem.le m19, Mem.le_refl _, _, held (cO hS19.b 0), _, held (cO h19 0), _, held (cO h19 1), via h166 ⟨g, s, r, a, valW a.ws (p + 2), rfl, hS19.p, hS19.a, hsm, hw, _, rfl, Mem.le_refl _, ?_⟩⟩
 rw [q4]
 generalize hv : valW a.ws (p + 2) = v at *
 generalize hbk : whereW a.ws v.2 = blk at *
 have b0 := q2.b0
 have bn := q2.bn
 have n1 := q2.n1
 have n2 := q2.n2
 obtain ⟨es, cl, L, k1, k2, k3⟩ := hH19
 refine ⟨_, cO hS19.b 3, gm, es, cl, L, rfl, k1, k2, _, k3 blk, ?_⟩
 by_cases hin : blk ∈ had
 ·rw [decide_eq_true hin, if_pos rfl]
  exact fin _ _ l19 (pB_no fun h => (ht.1 h).2.1 hin) fun h => absurd hin (ht.1 h).2.1
 rw [decide_eq_false hin, if_neg (by decide)]
 refine ⟨_, cO hS19.b 3, gm, es, cl, L, rfl, k1, k2, fun es' cl' hmi => ?_⟩
 obtain ⟨M1, hM1⟩ : ∃ M1, M1 = m19.upd gm (.map es' cl') := ⟨_, rfl⟩
 rw [← hM1]
 have u1 : M1 gm = some (.map es' cl') := by rw [hM1]; exact upd_same _ _ _
 have u2 : ∀ b, b ≠ gm → M1 b = m19 b := fun b hb => by rw [hM1]; exact upd_ne hb
 clear hM1
 have l01 : Mem.le m0 M1 := le_other (Mem.le_trans h0 l19) hgm0 u2
 have hS1 := hS0.le l01
 have hH1 : HasS M1 gm (blk :: had) := ⟨es', cl', _, u1, hmi, hasS_put k3 blk⟩
 have fin2 : ∀ (M : Mem) (c : Bool), Mem.le M1 M → pB (tabP a.ws p had) = c → ret Q (.bool c) M := fun M c hM hc => ⟨M, Mem.le_refl _, hc ▸ hQ M _ (fun b o hb h => hM _ _ ((u2 b hb).trans (l19 _ _ h))) (hH1.at fun o h => hM _ _ h) fun _ => hh.symm⟩
 refine ⟨_, cO hS1.b 0, via h102 ⟨g, s, r, a, blk, rfl, ⟨hS1.p, hS1.a, hw, b0, by omega⟩, _, _, _, rfl, by decide, (blkN a.ws blk).toNat + 1, ?_⟩⟩
 have e : (lookW a.ws blk).2.1 / 4 = blkN a.ws blk := rfl
 rw [Int.tdiv_eq_ediv_of_nonneg q3, e, w64 (x := blkN a.ws blk) (by omega) (by omega)]
 exact loopV t h167 h211 (P := tabP a.ws p had) hw hsm q2 rfl hS1 (fun M hM h => fin2 M _ hM (pB_no h)) (fun M hM h => fin2 M _ hM (pB_yes h))
  (fun h1 h2 h3 => ht.2 ⟨c8, hin, h1, h2, h3⟩) (fun h => ⟨(ht.1 h).2.2.1, (ht.1 h).2.2.2.1, (ht.1 h).2.2.2.2⟩) (blkN a.ws blk).toNat 0 (by omega) (fun j j0 j1 => by omega) M1 (Mem.le_refl _)
def szW (ws : List U64) (p : Int) : Int := (lookW ws p).2.1
def serW (ws : List U64) (p : Int) : Int := (lookW ws p).2.2
def setI (l : List Int) (i k : Int) : List Int := l.set i.toNat k
theorem setI_len (l : List Int) (i k : Int) : (setI l i k).length = l.length := by unfold setI; rw [List.length_set]
theorem gi_set {l : List Int} {i k q : Int} (i0 : 0 ≤ i) (i1 : i < l.length) (q0 : 0 ≤ q) : gi (setI l i k) q = if q = i then k else gi l q := by
 unfold gi setI
 rw [List.getD_eq_getElem?_getD, List.getElem?_set]
 by_cases c : q = i
 ·subst c
  rw [if_pos rfl, if_pos (by omega), if_pos rfl]; rfl
 ·rw [if_neg (by omega), if_neg c, ← List.getD_eq_getElem?_getD]
theorem hdW_b {w : Int} (h : inW w) : 0 ≤ (hdW w).2.1 ∧ (hdW w).2.1 ≤ 65535 ∧ 0 ≤ (hdW w).2.2 ∧ (hdW w).2.2 ≤ 17592186044416 := by
 obtain ⟨h0, h1⟩ := h
 unfold hdW
 exact ⟨by show 0 ≤ w / 16 % 65536; omega, by show w / 16 % 65536 ≤ 65535; omega, by show 0 ≤ w / 1048576; omega, by show w / 1048576 ≤ 17592186044416; omega⟩
theorem look_b {a : Ar} (hw : a.wf) (p : Int) : 0 ≤ szW a.ws p ∧ szW a.ws p ≤ 65535 ∧ 0 ≤ serW a.ws p ∧ serW a.ws p ≤ 17592186044416 := by
 have := hdW_b (gw_in hw.w p)
 unfold szW serW lookW readH
 split
 ·exact this
 ·exact ⟨by decide, by decide, by decide, by decide⟩
theorem ok_fwd {w : Int} (h0 : inW w) (h : okW w = true) : (fwd w).2 = false := by
 unfold fwd
 by_cases c : w < 9223372036854775808
 ·rw [if_pos (.inl c)]
 ·exfalso
  unfold okW hdOk at h
  rw [Bool.and_eq_true] at h
  have h := h.2
  split at h <;> rw [decide_eq_true_eq] at h <;> omega
theorem fwd_b (w : Int) : 0 ≤ (fwd w).1 ∧ (fwd w).1 ≤ 2147483647 := by
 unfold fwd
 split
 ·exact ⟨by decide, by decide⟩
 ·rename_i h; exact ⟨by show 0 ≤ w - 9223372036854775808; omega, by show w - 9223372036854775808 ≤ 2147483647; omega⟩
def toW (ws : List U64) (p : Int) : Int := (fwd (gw ws p)).1
def wk (a : Ar) (to_ k : Int) : Nat → Int → List Int → List Int → Int → Option (List Int × Int)
 | 0, _, _, _, _ => none
 | f + 1, p, mk, led, sum =>
  if p = to_ then some (mk, sum) else
  if okW (gw a.ws p) = true then
   if serW a.ws p < a.ser ∧ p + szW a.ws p + 1 ≤ to_ then wk a to_ k f (p + szW a.ws p + 1) (setI mk p k) led sum else none
  else if k = 2 ∧ (fwd (gw a.ws p)).2 = true ∧ toW a.ws p < a.ws.length ∧ gi mk (toW a.ws p) = 1 ∧ toW a.ws p ∉ led ∧ p + szW a.ws (toW a.ws p) + 1 ≤ to_ then
   wk a to_ k f (p + szW a.ws (toW a.ws p) + 1) (setI mk p 3) (toW a.ws p :: led) (sum + szW a.ws (toW a.ws p) + 1)
  else none
def headI (a : Ar) (to_ q : Int) : Prop := okW (gw a.ws q) = true ∧ serW a.ws q < a.ser ∧ q + szW a.ws q + 1 ≤ to_
def goneI (a : Ar) (mk : List Int) (q : Int) : Prop := (fwd (gw a.ws q)).2 = true ∧ toW a.ws q < a.ws.length ∧ gi mk (toW a.ws q) = 1
structure After (a : Ar) (k p to_ : Int) (mk mk' : List Int) (sum sum' : Int) : Prop where
 n : mk'.length = mk.length
 o : ∀ q, 0 ≤ q → q < p ∨ to_ ≤ q → gi mk' q = gi mk q
 i : ∀ q, p ≤ q → q < to_ → gi mk' q = gi mk q ∨ gi mk' q = k ∧ headI a to_ q ∨ k = 2 ∧ gi mk' q = 3 ∧ goneI a mk q
 s : sum ≤ sum' ∧ sum' - sum ≤ to_ - p
theorem wk_ok {a : Ar} (hw : a.wf) {to_ k : Int} : ∀ (f : Nat) (p : Int) (mk led : List Int) (sum : Int) (mk' : List Int) (sum' : Int), 0 ≤ p → p ≤ to_ → to_ ≤ mk.length → wk a to_ k f p mk led sum = some (mk', sum') → After a k p to_ mk mk' sum sum'
 | 0, p, mk, led, sum, mk', sum', _, _, _, h => by cases h
 | f + 1, p, mk, led, sum, mk', sum', p0, p1, tl, h => by
  unfold wk at h
  by_cases c : p = to_
  ·rw [if_pos c] at h
   cases h
   exact ⟨rfl, fun _ _ _ => rfl, fun q h1 h2 => by omega, ⟨by omega, by omega⟩⟩
  rw [if_neg c] at h
  by_cases c1 : okW (gw a.ws p) = true
  ·rw [if_pos c1] at h
   by_cases c2 : serW a.ws p < a.ser ∧ p + szW a.ws p + 1 ≤ to_
   ·rw [if_pos c2] at h
    have b := look_b hw p
    have r := wk_ok hw f _ _ _ _ _ _ (by omega) c2.2 (by rw [setI_len]; exact tl) h
    have e : ∀ q, 0 ≤ q → gi (setI mk p k) q = if q = p then k else gi mk q := fun q q0 => gi_set p0 (by omega) q0
    refine ⟨by rw [r.n, setI_len], fun q q0 hq => ?_, fun q h1 h2 => ?_, ⟨r.s.1, by have := r.s.2; omega⟩⟩
    ·rw [r.o q q0 (by omega), e q q0, if_neg (by omega)]
    ·by_cases d : q < p + szW a.ws p + 1
     ·have := r.o q (by omega) (.inl d)
      rw [e q (by omega)] at this
      by_cases d2 : q = p
      ·rw [if_pos d2] at this
       subst d2
       exact .inr (.inl ⟨this, c1, c2.1, c2.2⟩)
      ·rw [if_neg d2] at this; exact .inl this
     ·have := r.i q (by omega) h2
      rw [e q (by omega), if_neg (by omega)] at this
      rcases this with t | t | ⟨t1, t2, t3, t4, t5⟩
      ·exact .inl t
      ·exact .inr (.inl t)
      ·refine .inr (.inr ⟨t1, t2, t3, t4, ?_⟩)
       rw [e (toW a.ws q) (fwd_b _).1] at t5
       split at t5
       ·omega
       ·exact t5
   ·rw [if_neg c2] at h; cases h
  ·rw [if_neg c1] at h
   by_cases c2 : k = 2 ∧ (fwd (gw a.ws p)).2 = true ∧ toW a.ws p < a.ws.length ∧ gi mk (toW a.ws p) = 1 ∧ toW a.ws p ∉ led ∧ p + szW a.ws (toW a.ws p) + 1 ≤ to_
   ·rw [if_pos c2] at h
    obtain ⟨k2, f2, t2, g2, l2, b2⟩ := c2
    have b := look_b hw (toW a.ws p)
    have r := wk_ok hw f _ _ _ _ _ _ (by omega) b2 (by rw [setI_len]; exact tl) h
    have e : ∀ q, 0 ≤ q → gi (setI mk p 3) q = if q = p then 3 else gi mk q := fun q q0 => gi_set p0 (by omega) q0
    refine ⟨by rw [r.n, setI_len], fun q q0 hq => ?_, fun q h1 h2 => ?_, ⟨by have := r.s.1; omega, by have := r.s.2; omega⟩⟩
    ·rw [r.o q q0 (by omega), e q q0, if_neg (by omega)]
    ·by_cases d : q < p + szW a.ws (toW a.ws p) + 1
     ·have := r.o q (by omega) (.inl d)
      rw [e q (by omega)] at this
      by_cases d2 : q = p
      ·rw [if_pos d2] at this
       subst d2
       exact .inr (.inr ⟨k2, this, f2, t2, g2⟩)
      ·rw [if_neg d2] at this; exact .inl this
     ·have := r.i q (by omega) h2
      rw [e q (by omega), if_neg (by omega)] at this
      rcases this with t | t | ⟨t1, t2, t3, t4, t5⟩
      ·exact .inl t
      ·exact .inr (.inl t)
      ·refine .inr (.inr ⟨t1, t2, t3, t4, ?_⟩)
       rw [e (toW a.ws q) (fwd_b _).1] at t5
       split at t5
       ·omega
       ·exact t5
   ·rw [if_neg c2] at h; cases h
def scanP (a : Ar) (mk : List Int) : Prop := a.scan = a.top ∨ 0 ≤ a.scan ∧ a.scan < a.ws.length ∧ gi mk a.scan = 1
instance (a : Ar) (mk : List Int) : Decidable (scanP a mk) := by unfold scanP; infer_instance
def zeroA (a : Ar) : List Int := List.replicate a.ws.length 0
def tile1 (a : Ar) : Option (List Int × Int) := wk a a.top 1 (a.ws.length + 1) (startA a a.to) (zeroA a) [] 0
def tile2 (a : Ar) (mk : List Int) : Option (List Int × Int) := wk a a.old 2 (a.ws.length + 1) (startA a (1 - a.to)) mk [] 0
def tileO (a : Ar) : Option (List Int) :=
 match tile1 a with
 | none => none
 | some (mk, _) => if a.cyc = true then
   match tile2 a mk with
   | none => none
   | some (mk2, sum) => if sum = a.cop ∧ scanP a mk2 then some mk2 else none
  else some mk
theorem gi_zero (n : Nat) (q : Int) : gi (List.replicate n 0) q = 0 := by
 unfold gi
 rw [List.getD_eq_getElem?_getD, List.getElem?_replicate]
 split <;> rfl
def hdM (mk : List Int) (p : Int) : Prop := gi mk p = 1 ∨ gi mk p = 2
structure TileOk (a : Ar) (mk : List Int) : Prop where
 n : mk.length = a.ws.length
 v : ∀ p : Int, 0 ≤ p → p < mk.length → gi mk p = 0 ∨ gi mk p = 1 ∨ gi mk p = 2 ∨ gi mk p = 3
 h : ∀ p : Int, 0 ≤ p → p < mk.length → hdM mk p → okW (gw a.ws p) = true ∧ serW a.ws p < a.ser ∧ p + szW a.ws p < a.ws.length
 c : ∀ p : Int, 0 ≤ p → p < mk.length → gi mk p = 1 → startA a a.to ≤ p ∧ p + szW a.ws p + 1 ≤ a.top
 o : ∀ p : Int, 0 ≤ p → p < mk.length → gi mk p = 2 ∨ gi mk p = 3 → a.cyc = true ∧ startA a (1 - a.to) ≤ p ∧ p < a.old
 g : ∀ p : Int, 0 ≤ p → p < mk.length → gi mk p = 3 → (fwd (gw a.ws p)).2 = true ∧ toW a.ws p < a.ws.length ∧ gi mk (toW a.ws p) = 1
theorem halves {a : Ar} (h : NumP a) : startA a a.to ≤ a.top ∧ a.top ≤ endA a a.to ∧ endA a a.to ≤ a.ws.length ∧ 1 ≤ startA a a.to ∧ 1 ≤ startA a (1 - a.to) ∧ endA a (1 - a.to) ≤ a.ws.length ∧ (endA a a.to < startA a (1 - a.to) ∨ endA a (1 - a.to) < startA a a.to) := by
 have hsm := h.sm
 have e1 := startA_eq (a := a) hsm.t0 hsm.t1
 have e2 := startA_eq (a := a) (h := 1 - a.to) (by have := hsm.t1; omega) (by have := hsm.t0; omega)
 have e3 := endA_eq (a := a) hsm.t0 hsm.t1
 have e4 := endA_eq (a := a) (h := 1 - a.to) (by have := hsm.t1; omega) (by have := hsm.t0; omega)
 have := hsm.t0
 have := hsm.t1
 have := hsm.s0
 have := hsm.s1
 have := hsm.l
 have := h.p0
 have := h.p1
 refine ⟨h.p0, h.p1, ?_⟩
 rw [e1, e2, e3, e4]
 split <;> split <;> omega
theorem tile1_ok {a : Ar} (hw : a.wf) (h : NumP a) {mk : List Int} {x : Int} (ht : tile1 a = some (mk, x)) : mk.length = a.ws.length ∧ ∀ p : Int, 0 ≤ p → gi mk p = 0 ∨ gi mk p = 1 ∧ startA a a.to ≤ p ∧ headI a a.top p := by
 have hh := halves h
 have hz : (zeroA a).length = a.ws.length := by unfold zeroA; rw [List.length_replicate]
 have r := wk_ok hw _ _ _ _ _ _ _ (by omega) (by omega) (by omega) ht
 refine ⟨by rw [r.n, hz], fun p p0 => ?_⟩
 have e0 : gi (zeroA a) p = 0 := gi_zero _ _
 by_cases c : startA a a.to ≤ p ∧ p < a.top
 ·rcases r.i p c.1 c.2 with t | t | t
  ·exact .inl (by rw [t, e0])
  ·exact .inr ⟨t.1, c.1, t.2⟩
  ·omega
 ·exact .inl (by rw [r.o p p0 (by omega), e0])
theorem tile2_ok {a : Ar} (hw : a.wf) (h : NumP a) (hc : a.cyc = true) {mk mk2 : List Int} {x y : Int} (ht : tile1 a = some (mk, x)) (ht2 : tile2 a mk = some (mk2, y)) :
  mk2.length = a.ws.length ∧ 0 ≤ y ∧ y ≤ a.old - startA a (1 - a.to) ∧ ∀ p : Int, 0 ≤ p → gi mk2 p = gi mk p ∧ (p < startA a (1 - a.to) ∨ a.old ≤ p) ∨ gi mk p = 0 ∧ startA a (1 - a.to) ≤ p ∧ p < a.old ∧ (gi mk2 p = 0 ∨ gi mk2 p = 2 ∧ headI a a.old p ∨ gi mk2 p = 3 ∧ goneI a mk p) := by
 have hh := halves h
 have hf := h.f
 unfold freeP at hf
 rw [if_pos hc] at hf
 obtain ⟨n1, t1⟩ := tile1_ok hw h ht
 have r := wk_ok hw _ _ _ _ _ _ _ (by omega) (by omega) (by omega) ht2
 refine ⟨by rw [r.n, n1], r.s.1, by have := r.s.2; omega, fun p p0 => ?_⟩
 by_cases c : startA a (1 - a.to) ≤ p ∧ p < a.old
 ·have z : gi mk p = 0 := by
   rcases t1 p p0 with t | ⟨t, t2, t3⟩
   ·exact t
   ·have := t3.2.2
    have := (look_b hw p).1
    omega
  rcases r.i p c.1 c.2 with t | t | t
  ·exact .inr ⟨z, c.1, c.2, .inl (t.trans z)⟩
  ·exact .inr ⟨z, c.1, c.2, .inr (.inl t)⟩
  ·exact .inr ⟨z, c.1, c.2, .inr (.inr t.2)⟩
 ·exact .inl ⟨r.o p p0 (by omega), by omega⟩
theorem tile_ok {a : Ar} (hw : a.wf) (h : NumP a) {mk : List Int} (ht : tileO a = some mk) : TileOk a mk := by
 unfold tileO at ht
 have hh := halves h
 have hf := h.f
 unfold freeP at hf
 cases e1 : tile1 a with
 | none => rw [e1] at ht; cases ht
 | some x =>
  obtain ⟨mk1, s1⟩ := x
  rw [e1] at ht
  have ht : (if a.cyc = true then match tile2 a mk1 with
   | none => none
   | some (mk2, sum) => if sum = a.cop ∧ scanP a mk2 then some mk2 else none
  else some mk1) = some mk := ht
  obtain ⟨n1, t1⟩ := tile1_ok hw h e1
  cases hc : a.cyc with
  | false =>
   rw [hc, if_neg (by decide)] at ht
   cases ht
   refine ⟨n1, fun p p0 p1 => ?_, fun p p0 p1 hp => ?_, fun p p0 p1 hp => ?_, fun p p0 p1 hp => ?_, fun p p0 p1 hp => ?_⟩ <;> rcases t1 p p0 with t | ⟨t, t2, t3, t4, t5⟩
   ·exact .inl t
   ·exact .inr (.inl t)
   ·unfold hdM at hp; omega
   ·exact ⟨t3, t4, by omega⟩
   ·omega
   ·exact ⟨t2, t5⟩
   all_goals omega
  | true =>
   rw [hc, if_pos rfl] at ht hf
   cases e2 : tile2 a mk1 with
   | none => rw [e2] at ht; cases ht
   | some y =>
    obtain ⟨mk2, s2⟩ := y
    rw [e2] at ht
    have ht : (if s2 = a.cop ∧ scanP a mk2 then some mk2 else none) = some mk := ht
    obtain ⟨n2, u0, u1, t2⟩ := tile2_ok hw h hc e1 e2
    split at ht
    case isFalse => cases ht
    cases ht
    have keep : ∀ q, 0 ≤ q → gi mk1 q = 1 → gi mk q = 1 := fun q q0 hq => by
     rcases t2 q q0 with u | u
     ·rw [u.1]; exact hq
     ·omega
    refine ⟨n2, fun p p0 p1 => ?_, fun p p0 p1 hp => ?_, fun p p0 p1 hp => ?_, fun p p0 p1 hp => ?_, fun p p0 p1 hp => ?_⟩
    ·rcases t2 p p0 with ⟨u, v⟩ | ⟨u, v1, v2, w | ⟨w, x⟩ | ⟨w, x⟩⟩
     ·rcases t1 p p0 with t | ⟨t, _⟩ <;> omega
     all_goals omega
    ·rcases t2 p p0 with ⟨u, v⟩ | ⟨u, v1, v2, w | ⟨w, x⟩ | ⟨w, x⟩⟩
     ·rcases t1 p p0 with t | ⟨t, y1, y2, y3, y4⟩
      ·unfold hdM at hp; omega
      ·exact ⟨y2, y3, by omega⟩
     ·unfold hdM at hp; omega
     ·exact ⟨x.1, x.2.1, by have := x.2.2; omega⟩
     ·unfold hdM at hp; omega
    ·rcases t2 p p0 with ⟨u, v⟩ | ⟨u, v1, v2, w | ⟨w, x⟩ | ⟨w, x⟩⟩
     ·rcases t1 p p0 with t | ⟨t, y1, y2, y3, y4⟩
      ·omega
      ·exact ⟨y1, y4⟩
     all_goals omega
    ·rcases t2 p p0 with ⟨u, v⟩ | ⟨u, v1, v2, w | ⟨w, x⟩ | ⟨w, x⟩⟩
     ·rcases t1 p p0 with t | ⟨t, y1, y2, y3, y4⟩ <;> (exfalso; omega)
     all_goals first | exact ⟨hc, v1, v2⟩ | (exfalso; omega)
    ·rcases t2 p p0 with ⟨u, v⟩ | ⟨u, v1, v2, w | ⟨w, x⟩ | ⟨w, x⟩⟩
     ·rcases t1 p p0 with t | ⟨t, y1, y2, y3, y4⟩ <;> (exfalso; omega)
     ·exfalso; omega
     ·exfalso; omega
     ·exact ⟨x.1, x.2.1, keep _ (fwd_b _).1 x.2.2⟩
theorem TileOk.mkOk {a : Ar} {mk : List Int} (h : TileOk a mk) (hw : a.wf) (hN : NumP a) : MkOk a mk := by
 have hh := halves hN
 have hf := hN.f
 unfold freeP at hf
 refine ⟨h.n, h.v, fun p p0 p1 hp => ?_⟩
 have hn := h.n
 rcases h.v p p0 p1 with e | e | e | e
 ·exact absurd e hp
 ·have := ok_fwd (gw_in hw.w p) (h.h p p0 p1 (.inl e)).1
  have ew : whereW a.ws p = p := by unfold whereW; rw [this]; rfl
  refine ⟨by omega, by omega, ?_⟩
  unfold placeA; rw [ew]; split <;> rfl
 ·have := ok_fwd (gw_in hw.w p) (h.h p p0 p1 (.inr e)).1
  have ew : whereW a.ws p = p := by unfold whereW; rw [this]; rfl
  refine ⟨by omega, by omega, ?_⟩
  unfold placeA; rw [ew]; split <;> rfl
 ·obtain ⟨g1, g2, g3⟩ := h.g p p0 p1 e
  obtain ⟨o1, o2, o3⟩ := h.o p p0 p1 (.inr e)
  rw [o1, if_pos rfl] at hf
  have ew : whereW a.ws p = toW a.ws p := by unfold whereW; rw [g1]; rfl
  have := (fwd_b (gw a.ws p)).1
  have eo : otherA a p = true := by unfold otherA; rw [decide_eq_true_eq]; omega
  refine ⟨by rw [ew]; exact this, by rw [ew]; exact g2, ?_⟩
  unfold placeA; rw [eo]; rfl
theorem TileOk.head {a : Ar} {mk : List Int} (h : TileOk a mk) {p : Int} (p0 : 0 ≤ p) (p1 : p < mk.length) (hp : hdM mk p) : HeadAt a p := ⟨p0, (h.h p p0 p1 hp).1, (h.h p p0 p1 hp).2.2⟩
theorem TileOk.where_ {a : Ar} {mk : List Int} (h : TileOk a mk) (hw : a.wf) {p : Int} (p0 : 0 ≤ p) (p1 : p < mk.length) (hp : gi mk p ≠ 0) : 0 ≤ whereW a.ws p ∧ whereW a.ws p < mk.length ∧ hdM mk (whereW a.ws p) := by
 have hn := h.n
 rcases h.v p p0 p1 with e | e | e | e
 ·exact absurd e hp
 ·have := ok_fwd (gw_in hw.w p) (h.h p p0 p1 (.inl e)).1
  have ew : whereW a.ws p = p := by unfold whereW; rw [this]; rfl
  rw [ew]; exact ⟨p0, p1, .inl e⟩
 ·have := ok_fwd (gw_in hw.w p) (h.h p p0 p1 (.inr e)).1
  have ew : whereW a.ws p = p := by unfold whereW; rw [this]; rfl
  rw [ew]; exact ⟨p0, p1, .inr e⟩
 ·obtain ⟨g1, g2, g3⟩ := h.g p p0 p1 e
  have ew : whereW a.ws p = toW a.ws p := by unfold whereW; rw [g1]; rfl
  rw [ew]; exact ⟨(fwd_b (gw a.ws p)).1, by omega, .inl g3⟩
def serR (a : Ar) (mk : List Int) : Prop := ∀ p q : Int, 0 ≤ p → p < q → q < mk.length → hdM mk p → hdM mk q → serW a.ws p ≠ 0 → serW a.ws p ≠ serW a.ws q
def kdW (ws : List U64) (p : Int) : Int := (lookW ws p).1
open Classical in
noncomputable def tabsP (a : Ar) (mk : List Int) : Nat → Int → List Int → Prop
 | 0, _, _ => True
 | d + 1, p, had => if hdM mk p ∧ kdW a.ws p = 2 then tabP a.ws p had ∧ tabsP a mk d (p + 1) (hadN a.ws p had) else tabsP a mk d (p + 1) had
def rootP (a : Ar) (mk : List Int) (v : Vl) : Prop := valOkB v = true ∧ v.1 ≠ 8 ∧ leadsB a mk v 1 = true
structure OkM (a : Ar) (mk : List Int) : Prop where
 N : NumP a
 t : tileO a = some mk
 s : serR a mk
 o : ∀ p : Int, 0 ≤ p → p < mk.length → hdM mk p → objP a mk p
 b : tabsP a mk a.ws.length 0 []
 r : ∀ v ∈ a.rs, rootP a mk v
def okP (a : Ar) : Prop := ∃ mk, OkM a mk
theorem leads_ok {a : Ar} {mk : List Int} {v : Vl} {frm : Int} (h : leadsB a mk v frm = true) (hr : isRefB v = true) : v.2 < mk.length ∧ gi mk v.2 ≠ 0 ∧ kdW a.ws (whereW a.ws v.2) = kindT v.1 := by
 unfold leadsB at h
 rw [hr, if_pos rfl] at h
 by_cases c : (mk.length : Int) ≤ v.2
 ·rw [if_pos c] at h; cases h
 rw [if_neg c] at h
 split at h
 ·rename_i d
  refine ⟨by omega, by omega, ?_⟩
  rw [decide_eq_true_eq] at h
  exact h
 ·cases h
theorem mem_every {f : Int} {n : Nat} (j : Nat) (h : j < n) : f + 2 * (j : Int) ∈ everyK f n := by
 unfold everyK
 exact List.mem_map.2 ⟨j, List.mem_range.2 h, rfl⟩
theorem text_at {a : Ar} {mk : List Int} (hw : a.wf) (hT : TileOk a mk) (ho : ∀ p : Int, 0 ≤ p → p < mk.length → hdM mk p → objP a mk p) {p : Int} (p0 : 0 ≤ p) (p1 : p < mk.length) (hp : hdM mk p) (hk : kdW a.ws p = 1) : TextAt a p := by
 have hH := hT.head p0 p1 hp
 obtain ⟨s1, s2, s3⟩ := (ho p p0 p1 hp).2.1 hk
 have := (gw_in hw.w (p + 1)).1
 have := hH.pz
 exact ⟨p0, s1, by omega, by omega⟩
theorem key_ok {a : Ar} {mk : List Int} (hw : a.wf) (hN : NumP a) (hT : TileOk a mk) (ho : ∀ p : Int, 0 ≤ p → p < mk.length → hdM mk p → objP a mk p) {v : Vl} {frm : Int} (h1 : valOkB v = true) (h2 : leadsB a mk v frm = true) (h3 : v.1 ≠ 8) (h4 : v.1 ≠ 9) (h5 : v.1 ≠ 0) : KeyOk a v := by
 have t := valOk_tag h1
 have hM := hT.mkOk hw hN
 have hn := hT.n
 refine ⟨h1, by omega, by omega, fun hr => ?_, fun e => ?_⟩
 ·obtain ⟨l1, l2, l3⟩ := leads_ok h2 hr
  have := ref_pos h1 hr
  have := hM.w v.2 (by omega) l1 l2
  exact ⟨by omega, this⟩
 ·have hr : isRefB v = true := by unfold isRefB kindT; rw [e]; rfl
  obtain ⟨l1, l2, l3⟩ := leads_ok h2 hr
  have := ref_pos h1 hr
  obtain ⟨w1, w2, w3⟩ := hT.where_ hw (by omega) l1 l2
  refine text_at hw hT ho w1 w2 w3 (l3.trans ?_)
  unfold kindT; rw [e]; rfl
theorem blk_ok {a : Ar} {mk : List Int} (hw : a.wf) (hN : NumP a) (hT : TileOk a mk) (ho : ∀ p : Int, 0 ≤ p → p < mk.length → hdM mk p → objP a mk p) {p : Int} (p0 : 0 ≤ p) (p1 : p < mk.length) (hp : hdM mk p) (hk : kdW a.ws p = 3) : BlkOk a p (blkN a.ws p) := by
 have hH := hT.head p0 p1 hp
 obtain ⟨e1, e2, e3, e4⟩ := hH.look hw
 have hk : (lookW a.ws p).1 = 3 := hk
 have hz := hH.pz
 have hn := hT.n
 have hs : (lookW a.ws p).2.1 = 16 ∨ (lookW a.ws p).2.1 = 32 ∨ (lookW a.ws p).2.1 = 64 ∨ (lookW a.ws p).2.1 = 128 ∨ (lookW a.ws p).2.1 = 256 := by
  rw [hk] at e2
  unfold sizeB at e2
  simpa using e2
 have hb : blkN a.ws p = (lookW a.ws p).2.1 / 4 := rfl
 refine ⟨p0, by omega, by omega, by omega, fun i i0 i1 => ?_⟩
 have hx : 1 + 4 * i ∈ slotsL (lookW a.ws p).1 (lookW a.ws p).2.1 := by
  unfold slotsL
  rw [hk]
  have ef : fromK 3 (lookW a.ws p).2.1 = 1 := by unfold fromK; rw [if_neg (by decide), if_pos (by decide)]
  rw [ef]
  have := mem_every (f := 1) (n := numK 1 (lookW a.ws p).2.1) (2 * i).toNat (by unfold numK; omega)
  rwa [show 1 + 2 * (((2 * i).toNat : Nat) : Int) = 1 + 4 * i by omega] at this
 obtain ⟨v1, v2, v3⟩ := (ho p p0 p1 hp).1 _ hx
 rw [show p + (1 + 4 * i) = p + 1 + 4 * i by omega] at v1 v2 v3
 refine ⟨v1, ?_⟩
 by_cases c : (valW a.ws (p + 1 + 4 * i)).1 = 0
 ·exact .inl c
 ·rw [hk] at v3
  refine .inr (key_ok hw hN hT ho v1 v2 (fun e => ?_) (fun e => ?_) c) <;> (unfold ruleB at v3; rw [e] at v3; revert v3; decide)
theorem tab_at {a : Ar} {mk : List Int} (hw : a.wf) (hN : NumP a) (hT : TileOk a mk) (ho : ∀ p : Int, 0 ≤ p → p < mk.length → hdM mk p → objP a mk p) {p : Int} (p0 : 0 ≤ p) (p1 : p < mk.length) (hp : hdM mk p) (hk : kdW a.ws p = 2) : TabAt a p := by
 have hH := hT.head p0 p1 hp
 obtain ⟨e1, e2, e3, e4⟩ := hH.look hw
 have hk : (lookW a.ws p).1 = 2 := hk
 have hz := hH.pz
 have hn := hT.n
 have hM := hT.mkOk hw hN
 have hs : (lookW a.ws p).2.1 = 3 := by
  rw [hk] at e2
  unfold sizeB at e2
  simpa using e2
 have hx : (2 : Int) ∈ slotsL (lookW a.ws p).1 (lookW a.ws p).2.1 := by rw [hk, hs]; decide
 obtain ⟨v1, v2, v3⟩ := (ho p p0 p1 hp).1 _ hx
 refine ⟨p0, by omega, v1, fun e => ?_⟩
 have hr : isRefB (valW a.ws (p + 2)) = true := by unfold isRefB kindT; rw [e]; rfl
 obtain ⟨l1, l2, l3⟩ := leads_ok v2 hr
 have := ref_pos v1 hr
 obtain ⟨w1, w2, w3⟩ := hT.where_ hw (by omega) l1 l2
 have hb := blk_ok hw hN hT ho w1 w2 w3 (l3.trans (by unfold kindT; rw [e]; rfl))
 exact ⟨by omega, hb, (look_b hw _).1, (hM.w _ (by omega) l1 l2).2.2⟩
theorem tabs_tag {a : Ar} {mk : List Int} : ∀ (d : Nat) (p : Int) (had : List Int), tabsP a mk d p had → ∀ q : Int, p ≤ q → q < p + d → hdM mk q → kdW a.ws q = 2 → (valW a.ws (q + 2)).1 = 0 ∨ (valW a.ws (q + 2)).1 = 8
 | 0, p, had, h, q, h1, h2, h3, h4 => by omega
 | d + 1, p, had, h, q, h1, h2, h3, h4 => by
  unfold tabsP at h
  by_cases e : q = p
  ·subst e
   rw [if_pos ⟨h3, h4⟩] at h
   have h := h.1
   unfold tabP at h
   by_cases c : (valW a.ws (q + 2)).1 = 0
   ·exact .inl c
   ·rw [if_neg c] at h; exact .inr h.1
  ·by_cases c : hdM mk p ∧ kdW a.ws p = 2
   ·rw [if_pos c] at h; exact tabs_tag d _ _ h.2 q (by omega) (by omega) h3 h4
   ·rw [if_neg c] at h; exact tabs_tag d _ _ h q (by omega) (by omega) h3 h4
theorem objQ_P {a : Ar} {mk : List Int} {p : Int} (h : objQ a mk p) : objP a mk p := by
 refine ⟨fun x hx => ?_, h.2⟩
 obtain ⟨h1, h2, h3⟩ := h.1 x hx
 refine ⟨h1, h2, ?_⟩
 unfold ruleI at h3
 rw [Bool.and_eq_true] at h3
 exact h3.1
theorem objP_Q {a : Ar} {mk : List Int} (hw : a.wf) {p : Int} (hH : HeadAt a p) (h : objP a mk p) (ht : kdW a.ws p = 2 → (valW a.ws (p + 2)).1 = 0 ∨ (valW a.ws (p + 2)).1 = 8) : objQ a mk p := by
 refine ⟨fun x hx => ?_, h.2⟩
 obtain ⟨h1, h2, h3⟩ := h.1 x hx
 refine ⟨h1, h2, ?_⟩
 unfold ruleI
 rw [h3]
 by_cases k : (lookW a.ws p).1 = 2
 ·obtain ⟨e1, e2, e3, e4⟩ := hH.look hw
  have hs : (lookW a.ws p).2.1 = 3 := by
   rw [k] at e2
   unfold sizeB at e2
   simpa using e2
  rw [k, hs] at hx
  have hx : x ∈ [(2 : Int)] := hx
  rw [List.mem_singleton] at hx
  rw [hx, k]
  rcases ht k with t | t <;> rw [t] <;> rfl
 ·rw [show ((lookW a.ws p).1 == 2) = false by rw [beq_eq_false_iff_ne]; exact k]; rfl
theorem okQ {a : Ar} {mk : List Int} (hw : a.wf) (hN : NumP a) (ht : tileO a = some mk) : ((∀ p : Int, 0 ≤ p → p < mk.length → hdM mk p → objP a mk p) ∧ tabsP a mk a.ws.length 0 []) ↔ ((∀ p : Int, 0 ≤ p → p < mk.length → hdM mk p → objQ a mk p) ∧ tabsP a mk a.ws.length 0 []) := by
 have hT := tile_ok hw hN ht
 have hn := hT.n
 constructor
 ·rintro ⟨h1, h2⟩
  exact ⟨fun p p0 p1 hp => objP_Q hw (hT.head p0 p1 hp) (h1 p p0 p1 hp) fun hk => tabs_tag _ _ _ h2 p p0 (by omega) hp hk, h2⟩
 ·rintro ⟨h1, h2⟩
  exact ⟨fun p p0 p1 hp => objQ_P (h1 p p0 p1 hp), h2⟩
def objsF (a : Ar) : Nat → Int → List Int
 | 0, _ => []
 | f + 1, p => if p < a.top then p :: objsF a f (p + szW a.ws p + 1) else []
def objsL (a : Ar) : List Int := objsF a (a.ws.length + 1) (startA a a.to)
def rowI (mk : List Int) (tl : TypeId) : Obj := .cells (flat Enc.e mk ++ []).toArray tl (0, 0)
def rowB (l : List Bool) (tl : TypeId) : Obj := .cells (flat Enc.e l ++ []).toArray tl (0, 0)
theorem set_mark {m : Mem} {gl : Nat} {tl : TypeId} {mk : List Int} {p k : Int} {n : Nat} {K : Mem → Prop} (h : m gl = some (rowI mk tl)) (p0 : 0 ≤ p) (p1 : p < mk.length) (hn : mk.length = n) (hK : ∀ M : Mem, M gl = some (rowI (setI mk p k) tl) → (∀ b, b ≠ gl → M b = m b) → K M) :
  optA (some (⟨gl, 0, none⟩ : Addr)) fun (ad : Addr) => 0 ≤ p ∧ p < (n : Int) ∧ stoA m (ad.add (p.toNat * 1)) [.int .i64 k] K :=
 po ⟨p0, by omega, sto_elem (x := k) (i := p.toNat) h (by rw [add_eq rfl, Nat.zero_add]; rfl) (by omega) (hK _ (upd_same _ _ _) fun b hb => upd_ne hb)⟩
theorem set_led {m : Mem} {gl : Nat} {tl : TypeId} {l : List Bool} {p : Int} {n : Nat} {K : Mem → Prop} (h : m gl = some (rowB l tl)) (p0 : 0 ≤ p) (p1 : p < l.length) (hn : l.length = n) (hK : ∀ M : Mem, M gl = some (rowB (l.set p.toNat true) tl) → (∀ b, b ≠ gl → M b = m b) → K M) :
  optA (some (⟨gl, 0, none⟩ : Addr)) fun (ad : Addr) => 0 ≤ p ∧ p < (n : Int) ∧ stoA m (ad.add (p.toNat * 1)) [.bool true] K :=
 po ⟨p0, by omega, sto_elem (x := true) (i := p.toNat) h (by rw [add_eq rfl, Nat.zero_add]; rfl) (by omega) (hK _ (upd_same _ _ _) fun b hb => upd_ne hb)⟩
theorem RLed.put {n : Nat} {l : List Bool} {had : List Int} (h : RLed n l had) {x : Int} (x0 : 0 ≤ x) (x1 : x < n) : RLed n (l.set x.toNat true) (x :: had) := by
 have hl := h.1
 refine ⟨by rw [List.length_set]; exact hl, fun y y0 y1 => ?_⟩
 rw [List.mem_cons, List.getD_eq_getElem?_getD, List.getElem?_set]
 by_cases e : y = x
 ·subst e
  rw [if_pos rfl, if_pos (by omega)]
  simp
 ·rw [if_neg (by omega), ← List.getD_eq_getElem?_getD, h.2 y y0 y1]
  simp [e]
theorem le_put {m0 m M : Mem} {gl : Nat} (h : Mem.le m0 m) (hg : m0 gl = none) (hM : ∀ b, b ≠ gl → M b = m b) : Mem.le m0 M := le_other h hg hM
theorem loopT2 (t : Tab) (h172 : look t 172 = s172) (h173 : look t 173 = s173) (h90 : look t 90 = s90) (h103 : look t 103 = s103) {Q : Value → Mem → Prop} {s r : Sl} {a : Ar} {g gl gd mc : Nat} {tl td : TypeId} {m0 : Mem} (hw : a.wf) (hN : NumP a) (hc : a.cyc = true) (hP : Ptr m0 g s r a) (hA : ArAt m0 s r a) (hg : m0 gl = none) (hd0 : m0 gd = none) (hgd : gl ≠ gd)
  {R : Option (List Int × Int)} (no : (¬ ∃ mk2, R = some (mk2, a.cop) ∧ scanP a mk2) → ∀ (M : Mem) (mk : List Int), Mem.le m0 M → M gl = some (rowI mk tl) → ret Q (.bool false) M)
  (yes : ∀ mk2, R = some (mk2, a.cop) → scanP a mk2 → ∀ M : Mem, Mem.le m0 M → M gl = some (rowI mk2 tl) → ret Q (.bool true) M) :
  ∀ (d : Nat) (p : Int) (mk led : List Int) (row : List Bool) (sum : Int), a.old - p ≤ d → 0 ≤ p → p ≤ a.old → 0 ≤ sum → sum ≤ p → mk.length = a.ws.length → RLed a.ws.length row led → wk a a.old 2 (d + 1) p mk led sum = R → ∀ M : Mem, Mem.le m0 M → M gl = some (rowI mk tl) → M gd = some (rowB row td) →
   L87_13 (look t) (d + 1) Q (some ⟨gl, 0, none⟩) a.ws.length mc g (some ⟨gd, 0, none⟩) a.ws.length a.ws.length sum p M := by
 have hh := halves hN
 have hf := hN.f
 unfold freeP at hf
 rw [if_pos hc] at hf
 have hn := hA.n
 have hNn := hw.n
 have hz := hN.z1
 have endc : ∀ (d : Nat) (mk : List Int) (sum : Int), mk.length = a.ws.length → some (mk, sum) = R → ∀ M : Mem, Mem.le m0 M → M gl = some (rowI mk tl) → L87_13 (look t) (d + 1) Q (some ⟨gl, 0, none⟩) a.ws.length mc g (some ⟨gd, 0, none⟩) a.ws.length a.ws.length sum a.old M := by
  intro d mk sum hl hR M hle hgl
  have hb1 := hle _ _ hP
  rw [l87_13]
  refine ⟨M, Mem.le_refl _, _, cO hb1 6, ?_⟩
  rw [if_neg (by simp)]
  refine ⟨_, cO hb1 7, ?_⟩
  by_cases c1 : sum = a.cop
  case neg => rw [if_neg (by simpa using c1)]; exact no (by rintro ⟨mk2, e, _⟩; rw [← hR] at e; cases e; exact c1 rfl) M mk hle hgl
  rw [if_pos (by simpa using c1)]
  rw [c1] at hR
  refine ⟨_, cO hb1 5, _, cO hb1 3, ?_⟩
  by_cases c2 : a.scan = a.top
  ·rw [if_pos (by simpa using c2)]
   exact yes mk hR.symm (.inl c2) M hle hgl
  rw [if_neg (by simpa using c2)]
  refine ⟨_, cO hb1 5, ?_⟩
  rw [w64 (x := (a.ws.length : Int) - 1) (by omega) (by omega)]
  refine via h103 ⟨_, _, _, rfl, _, rfl, ?_⟩
  by_cases c3 : 0 ≤ a.scan ∧ a.scan ≤ (a.ws.length : Int) - 1
  ·rw [decide_eq_true c3, if_pos rfl]
   refine ⟨_, cO hb1 5, ri (Rd.of_block (spare := []) hgl (by simp)) hl c3.1 (by omega) fun ad had hdd => ⟨_, hdd _ (Mem.le_refl _), ?_⟩⟩
   by_cases c4 : gi mk a.scan = 1
   ·rw [show (gi mk a.scan == 1) = true from by simpa using c4]
    exact yes mk hR.symm (.inr ⟨c3.1, by omega, c4⟩) M hle hgl
   ·rw [show (gi mk a.scan == 1) = false from by simpa using c4]
    refine no ?_ M mk hle hgl
    rintro ⟨mk2, e, q⟩
    rw [← hR] at e
    cases e
    rcases q with q | q
    ·exact c2 q
    ·exact c4 q.2.2
  ·rw [decide_eq_false c3, if_neg (by decide)]
   refine no ?_ M mk hle hgl
   rintro ⟨mk2, e, q⟩
   rw [← hR] at e
   cases e
   rcases q with q | q
   ·exact c2 q
   ·omega
 intro d
 induction d with
 | zero =>
  intro p mk led row sum hd p0 p1 s0 s1 hl hrl hR M hle hgl hgd2
  have hp : p = a.old := by omega
  unfold wk at hR
  rw [if_pos hp] at hR
  rw [hp]
  exact endc 0 mk sum hl hR M hle hgl
 | succ d ih =>
  intro p mk led row sum hd p0 p1 s0 s1 hl hrl hR M hle hgl hgd2
  by_cases hp : p = a.old
  ·unfold wk at hR
   rw [if_pos hp] at hR
   rw [hp]
   exact endc (d + 1) mk sum hl hR M hle hgl
  have hb1 := hle _ _ hP
  have hA := hA.le hle
  unfold wk at hR
  rw [if_neg hp] at hR
  rw [l87_13]
  refine ⟨M, Mem.le_refl _, _, cO hb1 6, ?_⟩
  rw [if_pos (by simpa using hp)]
  refine ⟨_, _, _, cO hb1 0, wd hA.w hn p0 (by omega) fun ad had hdd => ⟨_, hdd _ (Mem.le_refl _), via h172 ⟨_, rfl, gw_in hw.w p, _, _, _, _, rfl, newA_intro fun g2 m2 hg2 e2 hb2 hle2 => sto (c := #[.int .i64 0, .int .i64 0, .int .i64 0]) (t := 33) hb2 rfl (by simp) fun m3 e3 h3 hne3 => ?_⟩⟩⟩
  have h3 : m3 g2 = some (.cells #[.int .i64 (lookW a.ws p).1, .int .i64 (szW a.ws p), .int .i64 (serW a.ws p)] 33 (0, 0)) := h3
  have l3 : Mem.le M m3 := le_other hle2 hg2 hne3
  have L3 := Mem.le_trans hle l3
  have hb1 := l3 _ _ hb1
  have hA3 := hA.le l3
  have hgl3 := l3 _ _ hgl
  have hgd3 := l3 _ _ hgd2
  have hg2l : g2 ≠ gl := fun e => by rw [e] at hg2; rw [hg2] at hgl; cases hgl
  have hg2d : g2 ≠ gd := fun e => by rw [e] at hg2; rw [hg2] at hgd2; cases hgd2
  have hg20 : m0 g2 = none := le_none hle hg2
  have er : (readH (gw a.ws p)).2 = okW (gw a.ws p) := by unfold readH; split <;> simp_all
  rw [er]
  have bad : R = none → ∀ M' mk', Mem.le m0 M' → M' gl = some (rowI mk' tl) → ret Q (.bool false) M' := fun h => no (by rintro ⟨mk2, e, _⟩; rw [h] at e; cases e)
  have bp := look_b hw p
  by_cases c1 : okW (gw a.ws p) = true
  ·rw [if_pos c1] at hR
   rw [c1, if_neg (by decide)]
   refine ⟨_, cO h3 2, _, cO hb1 8, ?_⟩
   by_cases c2 : serW a.ws p < a.ser
   case neg =>
    rw [if_neg (fun h => c2 h.1)] at hR
    rw [if_pos (by simp; omega)]
    exact bad hR.symm _ _ L3 hgl3
   rw [if_neg (by simp; omega)]
   refine ⟨_, cO h3 1, _, cO hb1 6, ?_⟩
   rw [w64 (x := p + szW a.ws p) (by omega) (by omega), w64 (x := p + szW a.ws p + 1) (by omega) (by omega)]
   by_cases c3 : p + szW a.ws p + 1 ≤ a.old
   case neg =>
    rw [if_neg (fun h => c3 h.2)] at hR
    rw [if_pos (by simp; omega)]
    exact bad hR.symm _ _ L3 hgl3
   rw [if_neg (by simp; omega)]
   rw [if_pos ⟨c2, c3⟩] at hR
   refine set_mark hgl3 p0 (by omega) hl fun M4 k4 e4 => ⟨_, cO ((e4 g2 hg2l).trans h3) 1, ?_⟩
   rw [w64 (x := p + szW a.ws p) (by omega) (by omega), w64 (x := p + szW a.ws p + 1) (by omega) (by omega)]
   exact ih _ _ _ _ _ (by omega) (by omega) c3 s0 (by omega) (by rw [setI_len]; exact hl) hrl hR M4 (le_put L3 hg e4) k4 ((e4 gd hgd.symm).trans hgd3)
  ·rw [if_neg c1] at hR
   rw [Bool.not_eq_true] at c1
   rw [c1, if_pos (by decide)]
   refine ⟨_, _, _, cO hb1 0, wd hA3.w hn p0 (by omega) fun ad had hdd => ⟨_, hdd _ (Mem.le_refl _), via h173 ⟨_, rfl, gw_in hw.w p, _, _, rfl, ?_⟩⟩⟩
   have fb := fwd_b (gw a.ws p)
   have ft : (fwd (gw a.ws p)).1 = toW a.ws p := rfl
   rw [ft] at fb
   cases c2 : (fwd (gw a.ws p)).2 with
   | false =>
    rw [c2, if_neg (fun h => by have := h.2.1; cases this)] at hR
    rw [if_pos (by decide)]
    exact bad hR.symm _ _ L3 hgl3
   | true =>
   rw [if_neg (by decide)]
   refine ⟨_, _, _, cO hb1 0, ?_⟩
   rw [ft]
   by_cases c3 : toW a.ws p < a.ws.length
   case neg =>
    rw [if_neg (fun h => c3 h.2.2.1)] at hR
    rw [if_pos (by simp; omega)]
    exact bad hR.symm _ _ L3 hgl3
   rw [if_neg (by simp; omega)]
   refine ri (Rd.of_block (spare := []) hgl3 (by simp)) hl fb.1 c3 fun ad had hdd => ⟨_, hdd _ (Mem.le_refl _), ?_⟩
   by_cases c4 : gi mk (toW a.ws p) = 1
   case neg =>
    rw [if_neg (fun h => c4 h.2.2.2.1)] at hR
    rw [if_pos (by simpa using c4)]
    exact bad hR.symm _ _ L3 hgl3
   rw [if_neg (by simpa using c4)]
   refine rl (Rd.of_block (spare := []) hgd3 (by simp)) hrl.1 fb.1 c3 fun ad had hdd => ⟨_, hdd _ (Mem.le_refl _), ?_⟩
   have hbi := hrl.2 _ fb.1 c3
   cases c5 : row.getD (toW a.ws p).toNat false with
   | true =>
    rw [if_pos rfl]
    rw [if_neg (fun h => h.2.2.2.2.1 (hbi.1 c5))] at hR
    exact bad hR.symm _ _ L3 hgl3
   | false =>
   rw [if_neg (by decide)]
   have hnh : toW a.ws p ∉ led := fun h => by rw [hbi.2 h] at c5; cases c5
   have hrn := hrl.1
   refine set_led hgd3 fb.1 (by omega) hrl.1 fun M4 k4 e4 => ?_
   have L4 : Mem.le m0 M4 := le_put L3 hd0 e4
   have hg1d : g ≠ gd := fun e => by rw [e] at hP; have hP : m0 gd = _ := hP; rw [hd0] at hP; cases hP
   have hb1 := L4 _ _ hP
   have h4 := (e4 g2 hg2d).trans h3
   have hgl4 := (e4 gl hgd).trans hgl3
   refine ⟨_, _, _, cO hb1 0, _, cO hb1 1, _, cO hb1 2, _, cO hb1 3, _, cO hb1 4, _, cO hb1 5, _, cO hb1 6, _, cO hb1 7, _, cO hb1 8, _, _, _, cO hb1 9, via h90 ⟨s, r, a, _, rfl, ⟨(by assumption : ArAt m0 s r a).le L4, hw, fb.1, c3⟩, _, _, _, rfl, sto (c := #[.int .i64 (lookW a.ws p).1, .int .i64 (szW a.ws p), .int .i64 (serW a.ws p)]) (t := 33) h4 rfl (by simp) fun m5 e5 h5 hne5 => ?_⟩⟩
   have h5 : m5 g2 = some (.cells #[.int .i64 (lookW a.ws (toW a.ws p)).1, .int .i64 (szW a.ws (toW a.ws p)), .int .i64 (serW a.ws (toW a.ws p))] 33 (0, 0)) := h5
   have L5 : Mem.le m0 m5 := le_put L4 hg20 hne5
   have hb1 := L5 _ _ hP
   have hgl5 := (hne5 gl hg2l.symm).trans hgl4
   have hgd5 := (hne5 gd hg2d.symm).trans k4
   refine ⟨_, cO h5 1, _, cO h5 1, _, cO hb1 6, ?_⟩
   have bq := look_b hw (toW a.ws p)
   rw [w64 (x := p + szW a.ws (toW a.ws p)) (by omega) (by omega), w64 (x := p + szW a.ws (toW a.ws p) + 1) (by omega) (by omega)]
   by_cases c6 : p + szW a.ws (toW a.ws p) + 1 ≤ a.old
   case neg =>
    rw [if_neg (fun h => c6 h.2.2.2.2.2)] at hR
    rw [if_pos (by simp; omega)]
    exact bad hR.symm _ _ L5 hgl5
   rw [if_neg (by simp; omega)]
   rw [if_pos ⟨rfl, c2, c3, c4, hnh, c6⟩] at hR
   refine set_mark hgl5 p0 (by omega) hl fun M6 k6 e6 => ⟨_, cO ((e6 g2 hg2l).trans h5) 1, ?_⟩
   rw [w64 (x := p + szW a.ws (toW a.ws p)) (by omega) (by omega), w64 (x := p + szW a.ws (toW a.ws p) + 1) (by omega) (by omega), w64 (x := sum + szW a.ws (toW a.ws p)) (by omega) (by omega), w64 (x := sum + szW a.ws (toW a.ws p) + 1) (by omega) (by omega)]
   exact ih _ _ _ _ _ (by omega) (by omega) c6 (by omega) (by omega) (by rw [setI_len]; exact hl) (hrl.put fb.1 c3) hR M6 (le_put L5 hg e6) k6 ((e6 gd hgd.symm).trans hgd5)
theorem tileO_n {a : Ar} (h : tile1 a = none) : tileO a = none := by unfold tileO; rw [h]
theorem tileO_f {a : Ar} {mk : List Int} {x : Int} (h : tile1 a = some (mk, x)) (hc : a.cyc = false) : tileO a = some mk := by unfold tileO; rw [h, hc]; rfl
theorem tileO_t {a : Ar} {mk mk2 : List Int} {x : Int} (h : tile1 a = some (mk, x)) (hc : a.cyc = true) (h2 : tile2 a mk = some (mk2, a.cop)) (h3 : scanP a mk2) : tileO a = some mk2 := by
 unfold tileO
 rw [h, hc]
 show (match tile2 a mk with
   | none => none
   | some (mk2, sum) => if sum = a.cop ∧ scanP a mk2 then some mk2 else none) = some mk2
 rw [h2]
 exact if_pos ⟨rfl, h3⟩
theorem tileO_x {a : Ar} {mk : List Int} {x : Int} (h : tile1 a = some (mk, x)) (hc : a.cyc = true) (h2 : ¬ ∃ mk2, tile2 a mk = some (mk2, a.cop) ∧ scanP a mk2) : tileO a = none := by
 unfold tileO
 rw [h, hc]
 show (match tile2 a mk with
   | none => none
   | some (mk2, sum) => if sum = a.cop ∧ scanP a mk2 then some mk2 else none) = none
 cases e : tile2 a mk with
 | none => rfl
 | some y =>
  obtain ⟨mk2, sum⟩ := y
  refine if_neg fun h => h2 ⟨mk2, ?_, h.2⟩
  rw [e, h.1]
theorem rled0 (n : Nat) : RLed n (List.replicate n false) [] := by
 refine ⟨List.length_replicate, fun x x0 x1 => ?_⟩
 rw [List.getD_eq_getElem?_getD, List.getElem?_replicate]
 split <;> simp
theorem loopT1 (t : Tab) (h172 : look t 172 = s172) (h173 : look t 173 = s173) (h90 : look t 90 = s90) (h103 : look t 103 = s103) (h105 : look t 105 = s105) {Q : Value → Mem → Prop} {s r : Sl} {a : Ar} {g gl mc : Nat} {tl : TypeId} {m0 : Mem} (hw : a.wf) (hN : NumP a) (hP : Ptr m0 g s r a) (hA : ArAt m0 s r a) (hg : m0 gl = none)
  (no : tileO a = none → ∀ (M : Mem) (mk : List Int), Mem.le m0 M → M gl = some (rowI mk tl) → ret Q (.bool false) M)
  (yes : ∀ mk2, tileO a = some mk2 → ∀ M : Mem, Mem.le m0 M → M gl = some (rowI mk2 tl) → ret Q (.bool true) M) :
  ∀ (d : Nat) (p : Int) (mk : List Int), a.top - p ≤ d → 0 ≤ p → p ≤ a.top → mk.length = a.ws.length → wk a a.top 1 (d + 1) p mk [] 0 = tile1 a → ∀ M : Mem, Mem.le m0 M → M gl = some (rowI mk tl) →
   L87_2 (look t) (d + 1) Q (some ⟨gl, 0, none⟩) a.ws.length mc g p M := by
 have hh := halves hN
 have hf := hN.f
 unfold freeP at hf
 have hn := hA.n
 have hNn := hw.n
 have hz := hN.z1
 have hsm := hN.sm
 have endc : ∀ (d : Nat) (mk : List Int), mk.length = a.ws.length → tile1 a = some (mk, 0) → ∀ M : Mem, Mem.le m0 M → M gl = some (rowI mk tl) → L87_2 (look t) (d + 1) Q (some ⟨gl, 0, none⟩) a.ws.length mc g a.top M := by
  intro d mk hl hR M hle hgl
  have hb1 := hle _ _ hP
  rw [l87_2]
  refine ⟨M, Mem.le_refl _, _, cO hb1 3, ?_⟩
  rw [if_neg (by simp)]
  refine ⟨_, cO hb1 4, ?_⟩
  cases hc : a.cyc with
  | false => rw [if_pos (by decide)]; exact yes mk (tileO_f hR hc) M hle hgl
  | true =>
  rw [if_neg (by decide)]
  rw [if_pos hc] at hf
  refine ⟨_, _, _, cO hb1 0, ?_⟩
  rw [← hn]
  refine ⟨by omega, Int.le_refl _, by omega, by omega, newA_intro fun gd m2 hgd e2 hb2 hle2 => ?_⟩
  have hb2 : m2 gd = some (rowB (List.replicate a.ws.length false) 4) := by
   rw [hb2]
   unfold rowB
   rw [List.append_nil, ← zeroRow_eq]
   rfl
  have L2 := Mem.le_trans hle hle2
  have hb1 := hle2 _ _ hb1
  have hgl2 := hle2 _ _ hgl
  have hgd0 : m0 gd = none := le_none hle hgd
  have hne : gl ≠ gd := fun e => by rw [← e] at hgd; rw [hgd] at hgl; cases hgl
  refine ⟨_, _, _, cO hb1 0, _, cO hb1 1, _, cO hb1 2, _, cO hb1 3, _, cO hb1 4, _, cO hb1 5, _, cO hb1 6, _, cO hb1 7, _, cO hb1 8, _, _, _, cO hb1 9, _, cO hb1 2, ?_⟩
  have := hsm.t0
  have := hsm.t1
  have := hsm.s0
  rw [w64 (x := 1 - a.to) (by omega) (by omega)]
  refine via h105 ⟨s, r, a, _, rfl, by omega, by omega, by omega, hsm.s1, _, rfl, a.ws.length + 1, ?_⟩
  exact loopT2 t h172 h173 h90 h103 hw hN hc hP hA hg hgd0 hne (R := tile2 a mk) (fun h => no (tileO_x hR hc h)) (fun mk2 h1 h2 => yes mk2 (tileO_t hR hc h1 h2)) a.ws.length _ mk [] _ 0 (by omega) (by omega) (by omega) (Int.le_refl _) (by omega) hl (rled0 _) rfl m2 L2 hgl2 hb2
 intro d
 induction d with
 | zero =>
  intro p mk hd p0 p1 hl hR M hle hgl
  have hp : p = a.top := by omega
  unfold wk at hR
  rw [if_pos hp] at hR
  rw [hp]
  exact endc 0 mk hl hR.symm M hle hgl
 | succ d ih =>
  intro p mk hd p0 p1 hl hR M hle hgl
  by_cases hp : p = a.top
  ·unfold wk at hR
   rw [if_pos hp] at hR
   rw [hp]
   exact endc (d + 1) mk hl hR.symm M hle hgl
  have hb1 := hle _ _ hP
  have hA := hA.le hle
  unfold wk at hR
  rw [if_neg hp] at hR
  rw [l87_2]
  refine ⟨M, Mem.le_refl _, _, cO hb1 3, ?_⟩
  rw [if_pos (by simpa using hp)]
  refine ⟨_, _, _, cO hb1 0, wd hA.w hn p0 (by omega) fun ad had hdd => ⟨_, hdd _ (Mem.le_refl _), via h172 ⟨_, rfl, gw_in hw.w p, _, _, _, _, rfl, newA_intro fun g2 m2 hg2 e2 hb2 hle2 => sto (c := #[.int .i64 0, .int .i64 0, .int .i64 0]) (t := 33) hb2 rfl (by simp) fun m3 e3 h3 hne3 => ?_⟩⟩⟩
  have h3 : m3 g2 = some (.cells #[.int .i64 (lookW a.ws p).1, .int .i64 (szW a.ws p), .int .i64 (serW a.ws p)] 33 (0, 0)) := h3
  have l3 : Mem.le M m3 := le_other hle2 hg2 hne3
  have L3 := Mem.le_trans hle l3
  have hb1 := l3 _ _ hb1
  have hgl3 := l3 _ _ hgl
  have hg2l : g2 ≠ gl := fun e => by rw [e] at hg2; rw [hg2] at hgl; cases hgl
  have er : (readH (gw a.ws p)).2 = okW (gw a.ws p) := by unfold readH; split <;> simp_all
  rw [er]
  have bad : tile1 a = none → ∀ M' mk', Mem.le m0 M' → M' gl = some (rowI mk' tl) → ret Q (.bool false) M' := fun h => no (tileO_n h)
  have bp := look_b hw p
  by_cases c1 : okW (gw a.ws p) = true
  case neg =>
   rw [if_neg c1, if_neg (fun h => by have := h.1; omega)] at hR
   rw [Bool.not_eq_true] at c1
   rw [c1, if_pos (by decide)]
   exact bad hR.symm _ _ L3 hgl3
  rw [if_pos c1] at hR
  rw [c1, if_neg (by decide)]
  refine ⟨_, cO h3 1, _, cO hb1 3, ?_⟩
  rw [w64 (x := p + szW a.ws p) (by omega) (by omega), w64 (x := p + szW a.ws p + 1) (by omega) (by omega)]
  by_cases c3 : p + szW a.ws p + 1 ≤ a.top
  case neg =>
   rw [if_neg (fun h => c3 h.2)] at hR
   rw [if_pos (by simp; omega)]
   exact bad hR.symm _ _ L3 hgl3
  rw [if_neg (by simp; omega)]
  refine ⟨_, cO h3 2, _, cO hb1 8, ?_⟩
  by_cases c2 : serW a.ws p < a.ser
  case neg =>
   rw [if_neg (fun h => c2 h.1)] at hR
   rw [if_pos (by simp; omega)]
   exact bad hR.symm _ _ L3 hgl3
  rw [if_neg (by simp; omega)]
  rw [if_pos ⟨c2, c3⟩] at hR
  refine set_mark hgl3 p0 (by omega) hl fun M4 k4 e4 => ⟨_, cO ((e4 g2 hg2l).trans h3) 1, ?_⟩
  rw [w64 (x := p + szW a.ws p) (by omega) (by omega), w64 (x := p + szW a.ws p + 1) (by omega) (by omega)]
  exact ih _ _ (by omega) (by omega) c3 (by rw [setI_len]; exact hl) hR M4 (le_put L3 hg e4) k4
def s87 : Spec := fun args m Q => ∃ (s r mkS : Sl) (a : Ar) (gl : Nat) (tl : TypeId) (m0 : Mem), args = [vA s r a, vs mkS] ∧ mkS.a = some ⟨gl, 0, none⟩ ∧ mkS.n = a.ws.length ∧ m gl = some (rowI (zeroA a) tl) ∧ Mem.le m0 m ∧ m0 gl = none ∧ ArAt m0 s r a ∧ a.wf ∧ NumP a ∧
 ∀ (M : Mem) (mk : List Int), Mem.le m0 M → M gl = some (rowI mk tl) → (∀ mk2, tileO a = some mk2 → mk = mk2) → Q (.bool (tileO a).isSome) M
theorem f87 (t : Tab) (h172 : look t 172 = s172) (h173 : look t 173 = s173) (h90 : look t 90 = s90) (h103 : look t 103 = s103) (h105 : look t 105 = s105) : Mt t s87 kp87 Tryz.f87 := by
 rintro args m Q ⟨s, r, ⟨ma, mn, mc⟩, a, gl, tl, m0, rfl, rfl, rfl, hgl, h0, hg, hA, hw, hN, hQ⟩
 show FA _ _ _ _ [aG s r a, .slice (some ⟨gl, 0, none⟩) a.ws.length mc] m Q
 rw [e87]
 have hh := halves hN
 have hsm := hN.sm
 have := hsm.t0
 have := hsm.t1
 have := hsm.s0
 refine newA_intro fun g m2 hg1 e2 hb1 hle2 => ?_
 have hgl2 := hle2 _ _ hgl
 have hgg : g ≠ gl := fun e => by rw [e] at hg1; rw [hg1] at hgl; cases hgl
 obtain ⟨m1, hm1⟩ : ∃ m1 : Mem, m1 = fun b => if b = gl then none else m2 b := ⟨_, rfl⟩
 have q1 : m1 gl = none := by rw [hm1]; exact if_pos rfl
 have q2 : ∀ b, b ≠ gl → m1 b = m2 b := fun b hb => by rw [hm1]; exact if_neg hb
 clear hm1
 have l01 : Mem.le m0 m1 := fun b o hb => by
  by_cases e : b = gl
  ·rw [e, hg] at hb; cases hb
  ·rw [q2 b e]; exact hle2 _ _ (h0 _ _ hb)
 have l12 : Mem.le m1 m2 := fun b o hb => by
  by_cases e : b = gl
  ·rw [e, q1] at hb; cases hb
  ·rw [← q2 b e]; exact hb
 have hP : Ptr m1 g s r a := (q2 g hgg).trans hb1
 have hb1 : m2 g = _ := hb1
 refine ⟨_, _, _, cO hb1 0, _, cO hb1 1, _, cO hb1 2, _, cO hb1 3, _, cO hb1 4, _, cO hb1 5, _, cO hb1 6, _, cO hb1 7, _, cO hb1 8, _, _, _, cO hb1 9, _, cO hb1 2, via h105 ⟨s, r, a, _, rfl, by omega, by omega, by omega, hsm.s1, _, rfl, a.ws.length + 1, ?_⟩⟩
 refine loopT1 t h172 h173 h90 h103 h105 hw hN hP (hA.le l01) q1 (fun h M mk hle hM => ?_) (fun mk2 h M hle hM => ?_) a.ws.length _ (zeroA a) (by omega) (by omega) (by omega) (by unfold zeroA; rw [List.length_replicate]) rfl m2 l12 hgl2
 ·have := hQ M mk (Mem.le_trans l01 hle) hM (fun mk2 e => by rw [h] at e; cases e)
  rw [h] at this
  exact ret_intro (Mem.le_refl _) this
 ·have := hQ M mk2 (Mem.le_trans l01 hle) hM (fun mk3 e => by rw [h] at e; cases e; rfl)
  rw [h] at this
  exact ret_intro (Mem.le_refl _) this
theorem li {m : Mem} {a : Option Addr} {l : List Int} {i : Int} {n : Nat} {K : Addr → Prop} (h : Rd m a l) (hn : l.length = n) (h0 : 0 ≤ i) (hi : i < n)
  (hK : ∀ ad, a = some ad → (∀ q : Mem, Mem.le m q → q.cell? (ad.add (i.toNat * 1)) = some (.int .i64 (gi l i))) → K ad) : optA a fun ad => 0 ≤ i ∧ i < (n : Int) ∧ K ad := ri h hn h0 hi hK
theorem gi_mem {l : List Int} {i : Nat} (h : i < l.length) : gi l (i : Int) = l[i] := by
 unfold gi
 rw [List.getD_eq_getElem?_getD, Int.toNat_natCast, List.getElem?_eq_getElem h]; rfl
theorem loopSh (t : Tab) {Q : Value → Mem → Prop} {mkS hs : Sl} {D : List Nat} {m : Mem} {g n3 : Nat} {p z : Int} {had : List Int} (hl : had.length ≤ 2 ^ 20)
  (no : z ∈ had → ∀ M, Mem.le m M → ret Q (.bool false) M)
  (yes : z ∉ had → ∀ (s' : Sl) (M : Mem) (D' : List Nat), Mem.le m M → OwnL M s' (had ++ [z]) D' → (∀ b ∈ D', m b = none) → s'.n = hs.n + 1 → L88_3 (look t) n3 Q mkS.a mkS.n mkS.c g s'.a (hs.n + 1) s'.c (IntKind.i64.wrap (p + 1)) M) :
  ∀ (d i : Nat), i + d = had.length → (∀ j : Nat, j < i → gi had (j : Int) ≠ z) → ∀ M : Mem, Mem.le m M → OwnL M hs had D → (∀ b ∈ D, m b = none) → L88_9 (look t) n3 (d + 1) Q mkS.a mkS.n mkS.c g hs.a hs.n hs.c p z (i : Int) M := by
 intro d
 induction d with
 | zero =>
  intro i hi hz M hle hO hD
  rw [l88_9]
  refine ⟨M, Mem.le_refl _, ?_⟩
  have hn := hO.1
  rw [if_neg (by simp; omega)]
  refine newA_intro fun g2 m2 hg e hb hle2 => ?_
  refine app_sl (α := Int) (l := had) (l2 := [z]) (D := D) rfl rfl (by decide) (by decide) (by decide) (hO.ext fun b hb' => ?_) rfl (Rd.of_block (spare := []) hb (by rfl)) (by show had.length + 1 ≤ 2 ^ 40; omega) fun s' D' M' hsn hO' hoff hfr hnd' => ?_
  ·obtain ⟨o, ho⟩ := hO.live b hb'
   rw [ho, hle2 _ _ ho]
  ·have hD' : ∀ b ∈ D', m b = none := by
    rcases hfr with rfl | hfr
    ·exact hD
    ·exact fun b hb' => le_none (Mem.le_trans hle hle2) (hfr b hb')
   refine yes (fun h => ?_) s' M' D' (le_off (Mem.le_trans hle hle2) hD' hoff) hO' hD' hsn
   obtain ⟨j, hj, e⟩ := List.mem_iff_getElem.1 h
   exact hz j (by omega) (by rw [gi_mem hj]; exact e)
 | succ d ih =>
  intro i hi hz M hle hO hD
  have hn := hO.1
  rw [l88_9]
  refine ⟨M, Mem.le_refl _, ?_⟩
  rw [if_pos (by simp; omega), wsucc (n := 2 ^ 20) (by omega) (by decide)]
  refine li hO.rd hn.symm (by omega) (by omega) fun ad had_ hd => ⟨_, hd _ (Mem.le_refl _), ?_⟩
  by_cases c : gi had (i : Int) = z
  ·rw [if_pos (by simpa using c)]
   refine no ?_ M hle
   rw [gi_mem (by omega)] at c
   rw [← c]
   exact List.getElem_mem _
  ·rw [if_neg (by simpa using c)]
   refine ih (i + 1) (by omega) (fun j hj => ?_) M hle hO hD
   by_cases e : j = i
   ·rw [e]; exact c
   ·exact hz j (by omega)
def HadN (a : Ar) (mk : List Int) (p : Int) (had : List Int) : Prop := ∀ x, x ∈ had ↔ x ≠ 0 ∧ ∃ q, 0 ≤ q ∧ q < p ∧ hdM mk q ∧ serW a.ws q = x
theorem HadN.skip {a : Ar} {mk : List Int} {p : Int} {had : List Int} (h : HadN a mk p had) (hs : hdM mk p → serW a.ws p = 0) : HadN a mk (p + 1) had := by
 intro x
 rw [h x]
 constructor
 ·rintro ⟨h1, q, q0, q1, q2, q3⟩
  exact ⟨h1, q, q0, by omega, q2, q3⟩
 ·rintro ⟨h1, q, q0, q1, q2, q3⟩
  refine ⟨h1, q, q0, ?_, q2, q3⟩
  by_cases e : q = p
  ·rw [e] at q2 q3
   exact absurd (q3.symm.trans (hs q2)) h1
  ·omega
theorem HadN.put {a : Ar} {mk : List Int} {p : Int} {had : List Int} (h : HadN a mk p had) (p0 : 0 ≤ p) (hp : hdM mk p) (hs : serW a.ws p ≠ 0) : HadN a mk (p + 1) (had ++ [serW a.ws p]) := by
 intro x
 rw [List.mem_append, List.mem_singleton, h x]
 constructor
 ·rintro (⟨h1, q, q0, q1, q2, q3⟩ | rfl)
  ·exact ⟨h1, q, q0, by omega, q2, q3⟩
  ·exact ⟨hs, p, p0, by omega, hp, rfl⟩
 ·rintro ⟨h1, q, q0, q1, q2, q3⟩
  by_cases e : q = p
  ·right; rw [← q3, e]
  ·exact .inl ⟨h1, q, q0, by omega, q2, q3⟩
theorem loopSg (t : Tab) (h90 : look t 90 = s90) {Q : Value → Mem → Prop} {s r mkS : Sl} {a : Ar} {mk : List Int} {m : Mem} {g : Nat} (hw : a.wf) (hP : Ptr m g s r a) (hA : ArAt m s r a) (hmn : mkS.n = mk.length) (hM : Rd m mkS.a mk) (hk : mk.length = a.ws.length)
  (no : ¬ serR a mk → ∀ M, Mem.le m M → ret Q (.bool false) M) (yes : serR a mk → ∀ M, Mem.le m M → ret Q (.bool true) M) :
  ∀ (d p : Nat), p + d = mk.length → ∀ (hs : Sl) (had : List Int) (D : List Nat) (M : Mem), Mem.le m M → OwnL M hs had D → (∀ b ∈ D, m b = none) → had.length ≤ p → HadN a mk p had → (∀ q1 q2 : Int, 0 ≤ q1 → q1 < q2 → q2 < p → hdM mk q1 → hdM mk q2 → serW a.ws q1 ≠ 0 → serW a.ws q1 ≠ serW a.ws q2) →
   L88_3 (look t) (d + 1) Q mkS.a mkS.n mkS.c g hs.a hs.n hs.c (p : Int) M := by
 intro d
 have hN := hw.n
 induction d with
 | zero =>
  intro p hp hs had D M hle hO hD hl hH hS
  rw [l88_3]
  refine ⟨M, Mem.le_refl _, ?_⟩
  rw [if_neg (by simp; omega)]
  exact yes (fun p q p0 p1 q1 h1 h2 h3 => hS p q p0 p1 (by omega) h1 h2 h3) M hle
 | succ d ih =>
  intro p hp hs had D M hle hO hD hl hH hS
  have hb1 := hle _ _ hP
  have hA := hA.le hle
  have hM := hM.le hle
  have p0 : (0 : Int) ≤ p := by omega
  have p1 : (p : Int) < a.ws.length := by omega
  have nx : (hdM mk p → serW a.ws p = 0) → L88_3 (look t) (d + 1) Q mkS.a mkS.n mkS.c g hs.a hs.n hs.c (IntKind.i64.wrap ((p : Int) + 1)) M := by
   intro h
   rw [wsucc (n := 2 ^ 20) (by omega) (by decide)]
   refine ih (p + 1) (by omega) hs had D M hle hO hD (by omega) (by have := hH.skip h; rwa [show ((p + 1 : Nat) : Int) = (p : Int) + 1 by omega]) fun q1 q2 a1 a2 a3 a4 a5 a6 => ?_
   by_cases e : q2 = p
   ·rw [e] at a5 ⊢
    intro e2
    exact a6 (e2.trans (h a5))
   ·exact hS q1 q2 a1 a2 (by omega) a4 a5 a6
  have fin : hdM mk p → if ((lookW a.ws p).2.2 == 0) = true then L88_3 (look t) (d + 1) Q mkS.a mkS.n mkS.c g hs.a hs.n hs.c (IntKind.i64.wrap ((p : Int) + 1)) M
    else ∃ k, L88_9 (look t) (d + 1) k Q mkS.a mkS.n mkS.c g hs.a hs.n hs.c (p : Int) (lookW a.ws p).2.2 0 M := by
   intro hp2
   by_cases c : serW a.ws p = 0
   ·rw [if_pos (by unfold serW at c; simpa using c)]
    exact nx fun _ => c
   ·rw [if_neg (by unfold serW at c; simpa using c)]
    refine ⟨had.length + 1, loopSh t (m := m) (had := had) (D := D) (by omega) (fun h => ?_) (fun h s' M' D' hle' hO' hD' hsn => ?_) had.length 0 (by omega) (fun j hj => by omega) M hle hO hD⟩
    ·refine no fun hR => ?_
     obtain ⟨x1, q, q0, q1, q2, q3⟩ := (hH _).1 h
     exact hR q p q0 q1 (by omega) q2 hp2 (by rw [q3]; exact x1) q3
    ·rw [wsucc (n := 2 ^ 20) (by omega) (by decide), ← hsn]
     refine ih (p + 1) (by omega) s' _ D' M' hle' hO' hD' (by rw [List.length_append]; show had.length + 1 ≤ p + 1; omega) (by have := hH.put p0 hp2 c; rwa [show ((p + 1 : Nat) : Int) = (p : Int) + 1 by omega]) fun q1 q2 a1 a2 a3 a4 a5 a6 => ?_
     by_cases e : q2 = p
     ·rw [e]
      intro e2
      exact h ((hH _).2 ⟨c, q1, a1, by omega, a4, e2⟩)
     ·exact hS q1 q2 a1 a2 (by omega) a4 a5 a6
  rw [l88_3]
  refine ⟨M, Mem.le_refl _, ?_⟩
  rw [if_pos (by simp; omega)]
  refine ri hM hmn.symm p0 (by omega) fun ad had_ hd => ⟨_, hd _ (Mem.le_refl _), ?_⟩
  by_cases c1 : gi mk p = 1
  ·rw [if_neg (by simpa using c1)]
   exact ⟨_, _, _, cO hb1 0, _, cO hb1 1, _, cO hb1 2, _, cO hb1 3, _, cO hb1 4, _, cO hb1 5, _, cO hb1 6, _, cO hb1 7, _, cO hb1 8, _, _, _, cO hb1 9, via h90 ⟨s, r, a, _, rfl, ⟨hA, hw, p0, p1⟩, _, _, _, rfl, fin (.inl c1)⟩⟩
  ·rw [if_pos (by simpa using c1)]
   refine ri hM hmn.symm p0 (by omega) fun ad had_ hd => ⟨_, hd _ (Mem.le_refl _), ?_⟩
   by_cases c2 : gi mk p = 2
   ·rw [if_neg (by simpa using c2)]
    exact ⟨_, _, _, cO hb1 0, _, cO hb1 1, _, cO hb1 2, _, cO hb1 3, _, cO hb1 4, _, cO hb1 5, _, cO hb1 6, _, cO hb1 7, _, cO hb1 8, _, _, _, cO hb1 9, via h90 ⟨s, r, a, _, rfl, ⟨hA, hw, p0, p1⟩, _, _, _, rfl, fin (.inr c2)⟩⟩
   ·rw [if_pos (by simpa using c2)]
    exact nx fun h => by unfold hdM at h; omega
def s88 : Spec := fun args m Q => ∃ (s r mkS : Sl) (a : Ar) (mk : List Int), args = [vA s r a, vs mkS] ∧ ArAt m s r a ∧ a.wf ∧ mkS.n = mk.length ∧ Rd m mkS.a mk ∧ mk.length = a.ws.length ∧ Q (.bool (pB (serR a mk))) m
theorem f88 (t : Tab) (h90 : look t 90 = s90) : Mt t s88 kp88 Tryz.f88 := by
 rintro args m Q ⟨s, r, mkS, a, mk, rfl, hA, hw, hmn, hM, hk, hQ⟩
 show FA _ _ _ _ [aG s r a, .slice mkS.a mkS.n mkS.c] m Q
 rw [e88]
 refine newA_intro fun g m2 hg1 e2 hb1 hle2 => newA_intro fun g3 m4 hg3 e4 hb3 hle4 => ⟨mk.length + 1, ?_⟩
 have l4 := Mem.le_trans hle2 hle4
 refine loopSg t h90 (m := m2) hw hb1 (hA.le hle2) hmn (hM.le hle2) hk (fun h M hM => ret_intro (Mem.le_trans hle2 hM) (pB_no h ▸ hQ)) (fun h M hM => ret_intro (Mem.le_trans hle2 hM) (pB_yes h ▸ hQ)) mk.length 0 (by omega) ⟨some ⟨g3, 0, none⟩, 0, 0⟩ [] [g3] m4 hle4 ⟨rfl, .inr ⟨g3, 3, [], rfl, rfl, hb3, rfl⟩⟩ (fun b hb => by rw [List.mem_singleton] at hb; rw [hb]; exact hg3) (by decide) (fun x => ?_) (fun q1 q2 a1 a2 a3 => by omega)
 constructor
 ·intro h; cases h
 ·rintro ⟨_, q, q0, q1, _⟩; omega
end Go.Proofs.YtpkehednooilhaaGreat.Abs
