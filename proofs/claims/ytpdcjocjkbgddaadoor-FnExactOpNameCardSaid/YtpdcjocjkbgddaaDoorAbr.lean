/- Rules for single operations of the abstract run: each in plain words about numbers, lists and what is known of memory; each is sound. No condition. -/
import Derived.Test.YtpdcjocjkbgddaaDoorAbt
namespace Go.Proofs.YtpdcjocjkbgddaaDoor.Abs
open Go.RowKit

/-! ### Small things -/
def optA {α : Type} (a : Option α) (K : α → Prop) : Prop :=
  match a with
  | some x => K x
  | none => False
theorem optA_some {α : Type} (x : α) (K : α → Prop) : optA (some x) K = K x := rfl
theorem optA_out {α : Type} {a : Option α} {K : α → Prop} (h : optA a K) : ∃ x, a = some x ∧ K x := by
  cases a with
  | none => exact h.elim
  | some x => exact ⟨x, rfl, h⟩
theorem add_eq {a : Addr} (h : a.spot = none) (i : Nat) : a.add i = ⟨a.block, a.off + i, none⟩ := by
  unfold Addr.add
  cases a with
  | mk b o s =>
    simp only at h
    subst h
    split
    · rename_i h; rw [h]; rfl
    · rfl
theorem upd_upd (m : Mem) (g : Nat) (o o' : Obj) : (m.upd g o).upd g o' = m.upd g o' := by
  funext b
  unfold Mem.upd
  by_cases h : b = g <;> simp [h]
theorem upd_same (m : Mem) (g : Nat) (o : Obj) : (m.upd g o) g = some o := by simp [Mem.upd]
theorem upd_ne {m : Mem} {g b : Nat} {o : Obj} (h : b ≠ g) : (m.upd g o) b = m b := by simp [Mem.upd, h]
theorem le_upd {m : Mem} {g : Nat} {o : Obj} (h : m g = none) : Mem.le m (m.upd g o) := by
  intro b x e
  rw [upd_ne]
  · exact e
  · rintro rfl
    rw [h] at e
    cases e

/-- A new block. -/
def newA (m : Mem) (o : Obj) (K : Nat → Mem → Prop) : Prop := ∀ g, m g = none → K g (m.upd g o)

/-! ### Stores of some cells, loads of some cells -/
def setAll (c : Array Value) (off : Nat) : List Value → Array Value
  | [] => c
  | v :: vs => setAll (c.setIfInBounds off v) (off + 1) vs
theorem setAll_size : ∀ (vs : List Value) (c : Array Value) (off : Nat), (setAll c off vs).size = c.size
  | [], _, _ => rfl
  | v :: vs, c, off => by rw [setAll, setAll_size vs]; simp
def stoA (m : Mem) (a : Addr) (vs : List Value) (K : Mem → Prop) : Prop :=
  match vs with
  | [] => K m
  | v :: r => (v :: r).all one = true ∧ ∃ (c : Array Value) (e : TypeId), m a.block = some (.cells c e (0, 0)) ∧ a.spot = none ∧ a.off + (r.length + 1) ≤ c.size ∧ K (m.upd a.block (.cells (setAll c a.off (v :: r)) e (0, 0)))
section
variable (P : Program)
theorem storeCells_abs {b o : Nat} {e : TypeId} {Q : Unit → Mem → Prop} : ∀ (vs : List Value) (i : Nat) (c : Array Value) (m : Mem), vs.all one = true → m b = some (.cells c e (0, 0)) → o + i + vs.length ≤ c.size →
    Q () (m.upd b (.cells (setAll c (o + i) vs) e (0, 0))) → absS P (storeCells ⟨b, o, none⟩ vs i) Q m
  | [], i, c, m, _, hm, _, h => by
    unfold storeCells
    have e : m.upd b (.cells (setAll c (o + i) []) e (0, 0)) = m := by
      funext x
      unfold Mem.upd
      by_cases hx : x = b
      · rw [if_pos hx, hx, hm]; rfl
      · rw [if_neg hx]
    rw [e] at h
    exact h
  | v :: vs, i, c, m, h1, hm, hl, h => by
    have hv : one v = true ∧ vs.all one = true := by simpa using h1
    unfold storeCells
    simp only [store, bind, Sem.bind, add_eq (a := ⟨b, o, none⟩) rfl, absS, hm]
    simp only [List.length_cons] at hl
    refine ⟨hv.1, trivial, by omega, by simp, ?_⟩
    refine storeCells_abs vs (i + 1) (c.setIfInBounds (o + i) v) _ hv.2 (upd_same _ _ _) (by simp; omega) ?_
    rw [upd_upd]
    exact h
theorem stoA_sound {m : Mem} {a : Addr} {vs : List Value} {K : Mem → Prop} (h : stoA m a vs K) : absS P (storeCells a vs) (fun _ m => K m) m := by
  cases vs with
  | nil => exact h
  | cons v r =>
    obtain ⟨h1, c, e, hm, hs, hl, hk⟩ := h
    obtain ⟨b, o, s⟩ := a
    simp only at hs hm hl hk
    subst hs
    exact storeCells_abs P (v :: r) 0 c m h1 hm (by simpa using hl) hk
def CellsAt (m : Mem) (base : Option Addr) (vs : List Value) : Prop :=
  match base with
  | some a => ∀ j v, vs[j]? = some v → m.cell? (a.add j) = some v
  | none => vs = []
theorem loadCells_abs {Q : Array Value → Mem → Prop} {m : Mem} (a : Addr) : ∀ (vs : List Value) (i : Nat) (acc : Array Value), (∀ j v, vs[j]? = some v → m.cell? (a.add (i + j)) = some v) →
    Q (acc ++ vs.toArray) m → absS P (loadCellsFrom a i vs.length acc) Q m
  | [], i, acc, _, h => by simp only [List.length_nil, loadCellsFrom, pure, absS]; simpa using h
  | v :: vs, i, acc, hc, h => by
    have h0 : m.cell? (a.add i) = some v := hc 0 v rfl
    simp only [List.length_cons, loadCellsFrom, load, bind, Sem.bind, absS, h0]
    refine loadCells_abs a vs (i + 1) (acc.push v) (fun j u e => by have := hc (j + 1) u e; rwa [Nat.add_assoc, Nat.add_comm 1 j]) ?_
    have e : acc.push v ++ vs.toArray = acc ++ (v :: vs).toArray := by apply Array.ext'; simp
    rw [e]
    exact h
theorem firstCells_abs {Q : Array Value → Mem → Prop} {m : Mem} {base : Option Addr} {vs : List Value} {size n l c : Nat} (hc : CellsAt m base vs) (hl : vs.length = n * size) (h : Q vs.toArray m) :
    absS P (Builtin.firstCells size n (.slice base l c)) Q m := by
  unfold Builtin.firstCells
  cases base with
  | none => simp only [CellsAt] at hc; subst hc; exact h
  | some a =>
    simp only [loadCells]
    rw [← hl]
    exact loadCells_abs P a vs 0 #[] (fun j v e => by simpa using hc j v e) (by simpa using h)

/-! ### Operations that touch no memory -/
def nilA (x : Value) (K : Value → Prop) : Prop :=
  match x with
  | .pointer a => optA a fun ad => K (.pointer (some ad))
  | .func (.func f) fst cap => K (.func (.func f) fst cap)
  | _ => False
def idxA (t : TypeId) (x i : Value) (K : Value → Prop) : Prop :=
  match x, i, P.underlying t with
  | .slice base n _, .int _ j, some (.slice elem) => match P.info? elem with
    | some inf => optA base fun ad => 0 ≤ j ∧ j < n ∧ K (.pointer (some (ad.add (j.toNat * inf.size))))
    | none => False
  | _, _, _ => False
def ixA (t : TypeId) (x i : Value) (K : Value → Prop) : Prop :=
  match x, i, P.underlying t with
  | .string s, .int _ j, some .string => 0 ≤ j ∧ ∃ b : UInt8, s[j.toNat]? = some b ∧ K (.int .u8 b.toNat)
  | _, _, _ => False
def boundA (v : Value) (y : Nat) (K : Nat → Prop) : Prop :=
  match v with
  | .int _ i => 0 ≤ i ∧ i ≤ y ∧ K i.toNat
  | _ => False
def optBound (v : Option Value) (y d : Nat) (K : Nat → Prop) : Prop :=
  match v with
  | some v => boundA v y K
  | none => K d
def sliA (t : TypeId) (x : Value) (lo hi mx : Option Value) (K : Value → Prop) : Prop :=
  match mx with
  | some _ => False
  | none => match x, P.underlying t with
    | .slice a n c, some (.slice elem) => match P.info? elem with
      | some inf => optBound hi c n fun h => optBound lo h 0 fun l => K (.slice (if c = l then a else a.map (·.add (l * inf.size))) (h - l) (c - l))
      | none => False
    | .string s, some .string => optBound hi s.size s.size fun h => optBound lo h 0 fun l => K (.string (s.extract l h))
    | _, _ => False
def binA (op : BinOp) (x y : Value) (K : Value → Prop) (other : Prop) : Prop :=
  match op, x, y with
  | .shl, .int k a, .int _ b => 0 ≤ b ∧ K (.int k (k.wrap (a * 2 ^ min b.toNat k.bits)))
  | .shr, .int k a, .int _ b => 0 ≤ b ∧ K (.int k (a.fdiv (2 ^ min b.toNat k.bits)))
  | .quo, .int k a, .int k' b => match k == k' with
    | true => b ≠ 0 ∧ K (.int k (k.wrap (a.tdiv b)))
    | false => False
  | .rem, .int k a, .int k' b => match k == k' with
    | true => b ≠ 0 ∧ K (.int k (a.tmod b))
    | false => False
  | .add, .string a, .string b => ((a.size + b.size : Nat) : Int) ≤ 9223372036854775807 ∧ K (.string (a ++ b))
  | _, _, _ => other
def valK (K : Value → Prop) (nx : Next) : Prop :=
  match nx with
  | .value v => K v
  | _ => False
/-- An operation that touches no memory. -/
def wlA (ρ : Operand → Value) (o : Oper) (K : Value → Prop) : Prop :=
  match o.op with
  | .nilCheck x => nilA (ρ x) K
  | .indexAddr t x i => idxA P t (ρ x) (ρ i) K
  | .index t x i => ixA P t (ρ x) (ρ i) K
  | .slice t x lo hi mx => sliA P t (ρ x) (lo.map ρ) (hi.map ρ) (mx.map ρ) K
  | .binOp op _ x y _ => binA op (ρ x) (ρ y) K (rdS P (execOp ρ o) (valK K) fun _ => none)
  | _ => rdS P (execOp ρ o) (valK K) fun _ => none

theorem boundA_out {v : Value} {y : Nat} {K : Nat → Prop} (h : boundA v y K) : ∃ n, K n ∧ ∀ (w : World) (code : BoundsCode), (Instr.sliceBound v y code).run P w = .ok n w := by
  unfold boundA at h
  split at h
  · rename_i k i
    obtain ⟨h1, h2, h3⟩ := h
    refine ⟨_, h3, fun w code => ?_⟩
    simp only [Instr.sliceBound, asIntOf, bind, Sem.bind, pure, if_pos (And.intro h1 h2), Sem.run]
  · exact h.elim
theorem bounds_out {isS : Bool} {lo hi : Option Value} {n c : Nat} {K : Nat → Nat → Prop} (hh : optBound hi c n fun h => optBound lo h 0 fun l => K h l) :
    ∃ u l, K u l ∧ ∀ w : World, (Instr.sliceBounds isS n c lo hi none).run P w = .ok (l, u, c) w := by
  cases hi with
  | none =>
    cases lo with
    | none => exact ⟨_, _, hh, fun w => rfl⟩
    | some lv =>
      obtain ⟨l, hk, hr⟩ := boundA_out P (K := fun l => K n l) hh
      refine ⟨n, l, hk, fun w => ?_⟩
      simp only [Instr.sliceBounds, bind, Sem.bind, pure]
      rw [run_bind P _ _ (hr w _)]
      rfl
  | some hv =>
    obtain ⟨u, hk, hr⟩ := boundA_out P (K := fun u => optBound lo u 0 fun l => K u l) hh
    cases lo with
    | none =>
      refine ⟨u, 0, hk, fun w => ?_⟩
      simp only [Instr.sliceBounds, bind, Sem.bind, pure]
      rw [run_bind P _ _ (hr w _)]
      rfl
    | some lv =>
      obtain ⟨l, hkl, hrl⟩ := boundA_out P (K := fun l => K u l) hk
      refine ⟨u, l, hkl, fun w => ?_⟩
      simp only [Instr.sliceBounds, bind, Sem.bind, pure]
      rw [run_bind P _ _ (hr w _), run_bind P _ _ (hrl w _)]
      rfl
theorem wlA_out {ρ : Operand → Value} {o : Oper} {K : Value → Prop} (h : wlA P ρ o K) : ∃ v, K v ∧ ∀ w : World, (execOp ρ o).run P w = .ok (.value v) w := by
  have gen : rdS P (execOp ρ o) (valK K) (fun _ => none) → ∃ v, K v ∧ ∀ w : World, (execOp ρ o).run P w = .ok (.value v) w := by
    intro h
    obtain ⟨nx, hn, hrun⟩ := rdS_sound P _ _ _ h
    cases nx <;> first | exact hn.elim | skip
    exact ⟨_, hn, fun w => hrun (fun _ => False) w w (Rel.mk (fun b o e => by cases e) rfl rfl rfl (Nat.le_refl _) (fun _ _ h => False.elim h))⟩
  unfold wlA at h
  split at h
  · rename_i x hop
    unfold nilA at h
    split at h
    · rename_i a hx
      obtain ⟨ad, rfl, hk⟩ := optA_out h
      exact ⟨_, hk, fun w => by unfold execOp; simp only [hop, hx, pure, Sem.run]⟩
    · rename_i hx
      exact ⟨_, h, fun w => by unfold execOp; simp only [hop, hx, pure, Sem.run]⟩
    · exact h.elim
  · rename_i t x i hop
    unfold idxA at h
    split at h
    · rename_i base n c k j elem hx hi ht
      split at h
      · rename_i inf hinf
        obtain ⟨ad, rfl, h1, h2, hk⟩ := optA_out h
        refine ⟨_, hk, fun w => ?_⟩
        unfold execOp
        simp only [hop, hx, hi, Instr.indexAt, asIntOf, underlying, sizeOf, typeInfo, program, bind, Sem.bind, pure, Sem.run, ht, hinf, if_pos (And.intro h1 h2)]
      · exact h.elim
    · exact h.elim
  · rename_i t x i hop
    unfold ixA at h
    split at h
    · rename_i s k j hx hi ht
      obtain ⟨h1, b, hb, hk⟩ := h
      refine ⟨_, hk, fun w => ?_⟩
      unfold execOp
      simp only [hop, hx, hi, Instr.index, asIntOf, underlying, program, bind, Sem.bind, pure, Sem.run, ht, if_pos h1, hb]
    · exact h.elim
  · rename_i t x lo hi mx hop
    unfold sliA at h
    cases mx with
    | some _ => exact h.elim
    | none =>
      simp only [Option.map_none] at h
      split at h
      · rename_i a n c elem hx ht
        split at h
        · rename_i inf hinf
          obtain ⟨u, l, hk, hr⟩ := bounds_out P (isS := true) h
          refine ⟨_, hk, fun w => ?_⟩
          have h1 : (Instr.sliceAt t (ρ x) (lo.map ρ) (hi.map ρ) none).run P w = .ok (.slice (if c = l then a else a.map (·.add (l * inf.size))) (u - l) (c - l)) w := by
            simp only [hx, Instr.sliceAt, Instr.slice, underlying, sizeOf, typeInfo, program, bind, Sem.bind, pure, Sem.run, ht]
            rw [run_bind P _ _ (hr w)]
            simp only [Sem.run, Sem.bind, hinf]
          unfold execOp
          simp only [hop, bind, pure, Option.map_none]
          rw [run_bind P _ _ h1]
          rfl
        · exact h.elim
      · rename_i s hx ht
        obtain ⟨u, l, hk, hr⟩ := bounds_out P (isS := false) h
        refine ⟨_, hk, fun w => ?_⟩
        have h1 : (Instr.sliceAt t (ρ x) (lo.map ρ) (hi.map ρ) none).run P w = .ok (.string (s.extract l u)) w := by
          simp only [hx, Instr.sliceAt, Instr.slice, underlying, program, bind, Sem.bind, pure, Sem.run, ht, Option.isSome_none, Bool.false_eq_true, if_false]
          rw [run_bind P _ _ (hr w)]
          rfl
        unfold execOp
        simp only [hop, bind, pure, Option.map_none]
        rw [run_bind P _ _ h1]
        rfl
      · exact h.elim
  · rename_i op t x y yt hop
    unfold binA at h
    split at h
    · rename_i k a kb b hx hy
      refine ⟨_, h.2, fun w => ?_⟩
      unfold execOp
      simp only [hop, hx, hy, eqGuard, binOp, Op.shift, bind, pure, if_neg (show ¬ b < 0 by omega)]
      rfl
    · rename_i k a kb b hx hy
      refine ⟨_, h.2, fun w => ?_⟩
      unfold execOp
      simp only [hop, hx, hy, eqGuard, binOp, Op.shift, bind, pure, if_neg (show ¬ b < 0 by omega)]
      rfl
    · rename_i k a k' b hx hy
      split at h
      case h_2 => exact h.elim
      rename_i hk
      obtain rfl : k = k' := by cases k <;> cases k' <;> first | rfl | cases hk
      refine ⟨_, h.2, fun w => ?_⟩
      unfold execOp
      simp only [hop, hx, hy, eqGuard, binOp, Op.intDiv, bind, pure, if_neg h.1, ne_eq, not_true_eq_false, if_false]
      rfl
    · rename_i k a k' b hx hy
      split at h
      case h_2 => exact h.elim
      rename_i hk
      obtain rfl : k = k' := by cases k <;> cases k' <;> first | rfl | cases hk
      refine ⟨_, h.2, fun w => ?_⟩
      unfold execOp
      simp only [hop, hx, hy, eqGuard, binOp, Op.intDiv, bind, pure, if_neg h.1, ne_eq, not_true_eq_false, if_false]
      rfl
    · rename_i a b hx hy
      refine ⟨_, h.2, fun w => ?_⟩
      unfold execOp
      have hn : ¬ (((a.size + b.size : Nat) : Int) > IntKind.i64.max) := by
        have := h.1
        have e : IntKind.i64.max = 9223372036854775807 := by rfl
        rw [e]
        omega
      simp only [hop, hx, hy, eqGuard, binOp, Op.stringOp, bind, pure, if_neg hn]
      rfl
    · exact gen h
  · exact gen h

/-! ### A call's result, in the form that its type's zero value shows -/
def likeL (f : Value → (Value → Prop) → Prop) (K : Array Value → Prop) : List Value → Array Value → Prop
  | [], acc => K acc
  | z :: zs, acc => f z fun u => likeL f K zs (acc.push u)
def like1 (z : Value) (K : Value → Prop) : Prop :=
  match z with
  | .agg zs => likeL likeC (fun cs => K (.agg cs)) zs.toList #[]
  | z => likeC z K
def likeV (z v : Value) (K : Value → Prop) : Prop :=
  match z with
  | .tuple zs => likeL like1 (fun cs => v = .tuple cs ∧ K (.tuple cs)) zs.toList #[]
  | z => like1 z fun u => v = u ∧ K u
theorem likeL_out {f : Value → (Value → Prop) → Prop} (hf : ∀ z K, f z K → ∃ u, K u) {K : Array Value → Prop} : ∀ (zs : List Value) (acc : Array Value), likeL f K zs acc → ∃ cs, K cs
  | [], acc, h => ⟨acc, h⟩
  | z :: zs, acc, h => by
    obtain ⟨u, h⟩ := hf _ _ h
    exact likeL_out hf zs _ h
theorem like1_out {z : Value} {K : Value → Prop} (h : like1 z K) : ∃ u, K u := by
  unfold like1 at h
  split at h
  · obtain ⟨cs, h⟩ := likeL_out (fun z K => likeC_out) _ _ h
    exact ⟨_, h⟩
  · exact likeC_out h
theorem likeV_out {z v : Value} {K : Value → Prop} (h : likeV z v K) : K v := by
  unfold likeV at h
  split at h
  · obtain ⟨cs, e, h2⟩ := likeL_out (fun z K => like1_out) _ _ h
    rw [e]
    exact h2
  · obtain ⟨u, e, h2⟩ := like1_out h
    rw [e]
    exact h2
def likeT (t : TypeId) (v : Value) (K : Value → Prop) : Prop :=
  match P.info? t with
  | some i => match i.zero with
    | some z => likeV z v K
    | none => K v
  | none => K v
theorem likeT_out {t : TypeId} {v : Value} {K : Value → Prop} (h : likeT P t v K) : K v := by
  unfold likeT at h
  split at h
  · split at h
    · exact likeV_out h
    · exact h
  · exact h

/-! ### Operations that make or write memory -/
def zeroRow (z : Array Value) (n : Nat) : Array Value := (Array.range n).map (z[· % z.size]!)
def mkA (t : TypeId) (n c : Value) (K : Value → Mem → Prop) (m : Mem) : Prop :=
  match n, c, P.underlying t with
  | .int _ n, .int _ c, some (.slice elem) => match P.info? elem with
    | some inf => match inf.zero with
      | some z => 0 ≤ n ∧ n ≤ c ∧ c * inf.bytes ≤ 2 ^ 47 ∧ c ≤ 2 ^ 47 ∧ ∀ g, m g = none → K (.slice (some ⟨g, 0, none⟩) n.toNat c.toNat) (m.upd g (.cells (zeroRow z.cells (c.toNat * inf.size)) elem (0, 0)))
      | none => False
    | none => False
  | _, _, _ => False
theorem wrap_in {x : Int} (h0 : 0 ≤ x) (h1 : x ≤ 2 ^ 47) : IntKind.i64.wrap x = x := by
  unfold IntKind.wrap
  simp [IntKind.bits, IntKind.signed]
  omega
theorem mkA_sound {t : TypeId} {n c : Value} {K : Value → Mem → Prop} {m : Mem} (h : mkA P t n c K m) : absS P (Instr.makeSlice t n c) K m := by
  unfold mkA at h
  split at h
  case h_2 => exact h.elim
  rename_i kn n kc c elem ht
  split at h
  case h_2 => exact h.elim
  rename_i inf hinf
  split at h
  case h_2 => exact h.elim
  rename_i z hz
  obtain ⟨h1, h2, h3, h4, hk⟩ := h
  have w1 := wrap_in h1 (by omega : n ≤ 2 ^ 47)
  have w2 := wrap_in (by omega : 0 ≤ c) h4
  have hb : (decide (c < 0) || decide ((inf.bytes : Int) * c > 2 ^ 48)) = false := by
    rw [Int.mul_comm] at h3
    simp
    omega
  have hb2 : (decide (n < 0) || decide (n > c)) = false := by simp; omega
  have hroom : ¬ c.toNat * inf.bytes > roomBytes := by
    unfold roomBytes
    obtain ⟨k, rfl⟩ := Int.eq_ofNat_of_zero_le (by omega : 0 ≤ c)
    have h3' : ((k * inf.bytes : Nat) : Int) ≤ ((2 ^ 47 : Nat) : Int) := by simpa using h3
    simp only [Int.toNat_natCast]
    omega
  unfold Instr.makeSlice
  simp only [underlying, program, bind, Sem.bind, pure, absS, ht, asInt, asIntOf, typeInfo, hinf, w1, w2, hb, hb2, Bool.false_or, Bool.false_eq_true, if_false, askRoom, hroom, sizeOf]
  split
  · rename_i h0
    simp only [newRow, newObj, bind, Sem.bind, pure, absS]
    intro g hg
    have := hk g hg
    have e : zeroRow z.cells (c.toNat * inf.size) = Array.map (fun x => (#[] : Array Value)[x % (#[] : Array Value).size]!) (Array.range (c.toNat * inf.size)) := by
      unfold zeroRow
      rw [h0]
      simp
    rw [e] at this
    exact this
  · simp only [zeroValue, typeInfo, program, hinf, hz, newRow, newObj, bind, Sem.bind, pure, absS]
    exact hk

/-- append: in place where the capacity serves, else into new memory; what is appended: the values vs. -/
def appR (m : Mem) (base : Option Addr) (sl sc : Nat) (b : Option Addr) (n size bytes : Nat) (z : Array Value) (elem : TypeId) (K : Option Addr → Nat → Mem → Prop) : Prop :=
  ∃ news : List Value, news.length = n * size ∧ CellsAt m b news ∧
    (sl + n ≤ sc → match base with
      | some a => stoA m (a.add (sl * size)) news fun m' => K base sc m'
      | none => K base sc m) ∧
    (sc < sl + n → bytes ≠ 0 ∧ Builtin.nextslicecap (sl + n) sc * bytes ≤ 2 ^ 48 ∧ ∃ olds : List Value, olds.length = sl * size ∧ CellsAt m base olds ∧
      ∀ g nc, sl + n ≤ nc → m g = none → K (some ⟨g, 0, none⟩) nc (m.upd g (.cells (olds.toArray ++ news.toArray ++ Builtin.zeroCells z (nc - (sl + n))) elem (0, 0))))
def appA (argTypes : Array TypeId) (s x : Value) (K : Value → Mem → Prop) (m : Mem) : Prop :=
  match s, x, argTypes[0]? with
  | .slice base sl sc, .slice b n _, some t => match P.underlying t, argTypes[1]? with
    | some (.slice elem), some t1 => match P.info? elem, P.underlying t1 with
      | some inf, some (.slice _) => match inf.zero with
        | some z => appR m base sl sc b n inf.size inf.bytes z.cells elem fun a c m' => K (.slice a (sl + n) c) m'
        | none => False
      | _, _ => False
    | _, _ => False
  | _, _, _ => False
theorem appA_sound {argTypes : Array TypeId} {ty : TypeId} {s x : Value} {rest : List Value} {K : Value → Mem → Prop} {m : Mem} (h : appA P argTypes s x K m) : absS P (Builtin.append_ argTypes ty (s :: x :: rest).toArray) K m := by
  unfold appA at h
  split at h
  case h_2 => exact h.elim
  rename_i base sl sc b n xc t h0
  split at h
  case h_2 => exact h.elim
  rename_i elem t1 ht h1
  split at h
  case h_2 => exact h.elim
  rename_i inf xe hinf ht1
  split at h
  case h_2 => exact h.elim
  rename_i z hz
  obtain ⟨news, hn, hnews, hin, hgr⟩ := h
  unfold Builtin.append_
  simp only [h0, h1, List.getElem?_toArray, List.getElem?_cons_zero, List.getElem?_cons_succ, underlying, program, bind, Sem.bind, pure, absS, ht, ht1, sizeOf, typeInfo, hinf, Bool.false_eq_true, if_false, Builtin.lenOf, Bool.not_false, if_true]
  by_cases hc : sl + n ≤ sc
  · rw [if_pos hc]
    have hin := hin hc
    show absS P (Sem.bind _ _) K m
    rw [absS_bind]
    refine firstCells_abs P hnews hn ?_
    cases base with
    | none => exact hin
    | some a =>
      simp only at hin ⊢
      show absS P (Sem.bind _ _) K m
      rw [absS_bind]
      exact stoA_sound P hin
  · rw [if_neg hc]
    obtain ⟨hb, hcap, olds, ho, holds, hk⟩ := hgr (by omega)
    have hnc : ¬ Builtin.nextslicecap (sl + n) sc * inf.bytes > 2 ^ 48 := by omega
    simp only [Bool.false_eq_true, false_or, hinf, Sem.bind, hb, and_false, if_false, absS, hnc, choose, Question.forced]
    intro q
    have hq : sl + n ≤ (Question.appendCap (sl + n) sc elem).cut q := by simp [Question.cut]
    generalize (Question.appendCap (sl + n) sc elem).cut q = nc at hq
    have fin : absS P ((Builtin.firstCells inf.size sl (Value.slice base sl sc)).bind fun old => (Builtin.firstCells inf.size n (Value.slice b n xc)).bind fun new => (zeroValue elem).bind fun zv =>
        (newRow elem (old ++ new ++ Builtin.zeroCells zv.cells (nc - (sl + n)))).bind fun ad => Sem.pure (Value.slice (some ad) (sl + n) nc)) K m := by
      rw [absS_bind]
      refine firstCells_abs P holds ho ?_
      rw [absS_bind]
      refine firstCells_abs P hnews hn ?_
      simp only [zeroValue, typeInfo, program, hinf, hz, newRow, newObj, bind, Sem.bind, pure, absS]
      exact fun g hg => hk g nc hq hg
    unfold askRoom
    split <;> exact fin

/-- copy: the first cells of src stand behind it at the beginning of dst. -/
def copA (argTypes : Array TypeId) (d x : Value) (K : Value → Mem → Prop) (m : Mem) : Prop :=
  match d, x, argTypes[0]? with
  | .slice base dl _, .slice b n _, some t => match P.underlying t with
    | some (.slice elem) => match P.info? elem with
      | some inf => ∃ news : List Value, news.length = min n dl * inf.size ∧ CellsAt m b news ∧
        match base with
        | some a => stoA m a news fun m' => K (.int .i64 (min n dl : Nat)) m'
        | none => K (.int .i64 (min n dl : Nat)) m
      | none => False
    | _ => False
  | _, _, _ => False
theorem copA_sound {argTypes : Array TypeId} {ty : TypeId} {d x : Value} {rest : List Value} {K : Value → Mem → Prop} {m : Mem} (h : copA P argTypes d x K m) : absS P (Builtin.copy_ argTypes ty (d :: x :: rest).toArray) K m := by
  unfold copA at h
  split at h
  case h_2 => exact h.elim
  rename_i base dl dc b n xc t h0
  split at h
  case h_2 => exact h.elim
  rename_i elem ht
  split at h
  case h_2 => exact h.elim
  rename_i inf hinf
  obtain ⟨news, hn, hnews, hk⟩ := h
  unfold Builtin.copy_
  simp only [h0, List.getElem?_toArray, List.getElem?_cons_zero, List.getElem?_cons_succ, underlying, program, bind, Sem.bind, pure, absS, ht, sizeOf, typeInfo, hinf, Builtin.lenOf]
  show absS P (Sem.bind _ _) K m
  rw [absS_bind]
  refine firstCells_abs P hnews hn ?_
  cases base with
  | none => exact hk
  | some a =>
    show absS P (Sem.bind _ _) K m
    rw [absS_bind]
    exact stoA_sound P hk
/-- clear of a slice. -/
def clrA (argTypes : Array TypeId) (x : Value) (K : Value → Mem → Prop) (m : Mem) : Prop :=
  match x, argTypes[0]? with
  | .slice (some a) (n + 1) _, some t => match P.underlying t with
    | some (.slice elem) => match P.info? elem with
      | some inf => match inf.zero with
        | some z => stoA m a (Builtin.zeroCells z.cells (n + 1)).toList fun m' => K (.tuple #[]) m'
        | none => False
      | none => False
    | _ => False
  | _, _ => False
theorem clrA_sound {argTypes : Array TypeId} {ty : TypeId} {x : Value} {K : Value → Mem → Prop} {m : Mem} (h : clrA P argTypes x K m) : absS P (Builtin.clear_ argTypes ty [x].toArray) K m := by
  unfold clrA at h
  split at h
  case h_2 => exact h.elim
  rename_i a n c t h0
  split at h
  case h_2 => exact h.elim
  rename_i elem ht
  split at h
  case h_2 => exact h.elim
  rename_i inf hinf
  split at h
  case h_2 => exact h.elim
  rename_i z hz
  unfold Builtin.clear_
  simp only [h0, List.getElem?_toArray, List.getElem?_cons_zero, underlying, program, bind, Sem.bind, pure, absS, ht, zeroValue, typeInfo, hinf, hz]
  show absS P (Sem.bind _ _) K m
  rw [absS_bind]
  exact stoA_sound P h
/-- A store. -/
def strA (t : TypeId) (p v : Value) (K : Value → Mem → Prop) (m : Mem) : Prop :=
  match p, P.info? t with
  | .pointer (some a), some inf => match v.cells.size == inf.size with
    | true => stoA m a v.cells.toList fun m' => K undef m'
    | false => False
  | _, _ => False
theorem strA_sound {t : TypeId} {p v : Value} {K : Value → Mem → Prop} {m : Mem} (h : strA P t p v K m) : absS P (Instr.storeAt t p v) (fun _ m' => K undef m') m := by
  unfold strA at h
  split at h
  case h_2 => exact h.elim
  rename_i a inf hinf
  split at h
  case h_2 => exact h.elim
  rename_i hs
  have hs : ¬ v.cells.size ≠ inf.size := by simpa using hs
  unfold Instr.storeAt
  simp only [Instr.sureAddr, storeVar, sizeOf, typeInfo, program, bind, Sem.bind, pure, absS, hinf, hs, if_false]
  exact stoA_sound P h
/-- The text of some bytes. -/
def bytesA (m : Mem) (x : Value) (K : Value → Prop) : Prop :=
  match x with
  | .slice a n _ => ∃ bs : List UInt8, bs.length = n ∧ CellsAt m a (bs.map fun b => .int .u8 b.toNat) ∧ K (.string ⟨bs.toArray⟩)
  | _ => False
theorem bytesA_sound {x : Value} {K : Value → Mem → Prop} {m : Mem} (h : bytesA m x (fun v => K v m)) : absS P (Conv.bytesToString x) K m := by
  unfold bytesA at h
  split at h
  · rename_i a n c
    obtain ⟨bs, hn, hc, hk⟩ := h
    cases a with
    | none =>
      have hc : bs.map (fun b => (Value.int .u8 b.toNat)) = [] := hc
      obtain rfl : bs = [] := by simpa using hc
      exact hk
    | some a =>
    unfold Conv.bytesToString
    simp only [bind]
    rw [absS_bind]
    unfold loadCells
    have hl : n = (bs.map fun b => (Value.int .u8 b.toNat)).length := by simp [hn]
    rw [hl]
    refine loadCells_abs P a _ 0 #[] (fun j v e => by simpa using hc j v e) ?_
    have key : ∀ (bs : List UInt8) (acc : ByteArray), K (.string ⟨acc.data ++ bs.toArray⟩) m →
        absS P (Sem.bind (forIn (bs.map fun b => (Value.int .u8 b.toNat)) acc (fun c r => match c with
          | .int .u8 n => do
            let s := r.push (UInt8.ofNat n.toNat)
            pure PUnit.unit
            pure (ForInStep.yield s)
          | _ => stuck "bytesToString: byte expected" : Value → ByteArray → Sem (ForInStep ByteArray))) fun s => pure (.string s)) K m := by
      intro bs
      induction bs with
      | nil =>
        intro acc h
        have h : K (.string ⟨acc.data⟩) m := by simpa using h
        exact h
      | cons b bs ih =>
        intro acc h
        have eb : UInt8.ofNat ((b.toNat : Int).toNat) = b := by simp
        have := ih (acc.push (UInt8.ofNat ((b.toNat : Int).toNat))) (by
          have e : (acc.push b).data ++ bs.toArray = acc.data ++ (b :: bs).toArray := by
            apply Array.ext'
            simp [ByteArray.push]
          rw [eb, e]
          exact h)
        rw [List.map_cons, List.forIn_cons]
        exact this
    have h0 := key bs ByteArray.empty (by
      have e : (ByteArray.empty.data ++ bs.toArray) = bs.toArray := by
        apply Array.ext'
        rw [Array.toList_append]
        exact List.nil_append _
      rw [e]
      exact hk)
    have e1 : (#[] ++ (bs.map fun b => (Value.int .u8 b.toNat)).toArray) = (bs.map fun b => (Value.int .u8 b.toNat)).toArray := by apply Array.ext'; simp
    rw [e1]
    rw [List.forIn_toArray]
    exact h0
  · exact h.elim
/-! ### Maps whose keys are whole numbers -/
/-- The entries es are the pairs L. -/
def MapIs (k : IntKind) (es : Array MapEntry) (L : List (Int × Value)) : Prop := es.toList.map (fun e => (e.key, e.val)) = L.map fun p => (.int k p.1, p.2)
def getM (L : List (Int × Value)) (i : Int) : Option Value :=
  match L with
  | [] => none
  | p :: r => if i = p.1 then some p.2 else getM r i
def putM (L : List (Int × Value)) (i : Int) (v : Value) : List (Int × Value) :=
  match L with
  | [] => [(i, v)]
  | p :: r => if i = p.1 then (i, v) :: r else p :: putM r i v
def lookA (t : TypeId) (x ix : Value) (ok : Bool) (K : Value → Mem → Prop) (m : Mem) : Prop :=
  match x, ix, P.underlying t with
  | .map o, .int k i, some (.map kt et) => match P.underlying kt, P.info? et with
    | some (.int _), some inf => match inf.zero with
      | some z => ∃ (r : Nat) (es : Array MapEntry) (cl : Nat) (L : List (Int × Value)), o = some r ∧ m r = some (.map es cl) ∧ MapIs k es L ∧ match ok with
        | true => likeC z fun u => (getM L i).getD z = u ∧ K (.tuple #[u, .bool (getM L i).isSome]) m
        | false => likeC z fun u => (getM L i).getD z = u ∧ K u m
      | none => False
    | _, _ => False
  | _, _, _ => False
def mupA (t : TypeId) (x ix v : Value) (K : Value → Mem → Prop) (m : Mem) : Prop :=
  match x, ix, P.underlying t with
  | .map o, .int k i, some (.map kt _) => match P.underlying kt with
    | some (.int _) => ∃ (r : Nat) (es : Array MapEntry) (cl : Nat) (L : List (Int × Value)), o = some r ∧ m r = some (.map es cl) ∧ MapIs k es L ∧
      ∀ (es' : Array MapEntry) (cl' : Nat), MapIs k es' (putM L i v) → K undef (m.upd r (.map es' cl'))
    | _ => False
  | _, _, _ => False
theorem checkKey_abs {e : Bool} {n : Nat} {kt : TypeId} {k k' : IntKind} {i : Int} {Q : Unit → Mem → Prop} {m : Mem} (hk : P.underlying kt = some (.int k')) (h : Q () m) : absS P (Instr.checkKey e (n + 1) kt (.int k i)) Q m := by
  simp only [Instr.checkKey, underlying, program, bind, Sem.bind, pure, absS, hk]
  exact h
theorem findNow_abs {k k' : IntKind} {i : Int} : ∀ (es : List MapEntry) (L : List (Int × Value)) (j : Nat), es.map (fun e => (e.key, e.val)) = L.map (fun p => (Value.int k p.1, p.2)) →
    ∃ r, Instr.findNow (.int k') (.int k i) es j = some r ∧ ((r = none ∧ getM L i = none ∧ ∀ v, putM L i v = L ++ [(i, v)]) ∨
      ∃ (q : Nat) (u : Value), r = some (j + q, u) ∧ getM L i = some u ∧ q < L.length ∧ (∃ e, es[q]? = some e ∧ e.key = .int k i) ∧ ∀ v, putM L i v = L.set q (i, v))
  | [], L, j, h => by
    have : L = [] := by simpa using h.symm
    subst this
    exact ⟨none, rfl, .inl ⟨rfl, rfl, fun v => rfl⟩⟩
  | e :: es, [], j, h => by simp at h
  | e :: es, p :: L, j, h => by
    simp only [List.map_cons, List.cons.injEq, Prod.mk.injEq] at h
    obtain ⟨⟨h1, h2⟩, h3⟩ := h
    obtain ⟨r, hr, hc⟩ := findNow_abs es L (j + 1) h3
    have hs : Instr.sameNow (.int k') (.int k i) e.key = some (i == p.1) := by rw [h1]; simp [Instr.sameNow]
    by_cases hi : i = p.1
    · refine ⟨some (j, e.val), ?_, .inr ⟨0, p.2, by rw [h2]; rfl, by simp [getM, hi], by simp, ⟨e, rfl, by rw [h1, hi]⟩, fun v => by simp [putM, hi]⟩⟩
      simp only [Instr.findNow, hs]
      rw [show (i == p.1) = true by simpa using hi]
    · refine ⟨r, ?_, ?_⟩
      · simp only [Instr.findNow, hs]
        rw [show (i == p.1) = false by simpa using hi]
        exact hr
      · rcases hc with ⟨h4, h5, h6⟩ | ⟨q, u, h4, h5, h6, ⟨e', h7, h8⟩, h9⟩
        · exact .inl ⟨h4, by simp [getM, hi, h5], fun v => by simp [putM, hi, h6]⟩
        · exact .inr ⟨q + 1, u, by rw [h4]; congr 2; omega, by simp [getM, hi, h5], by simp; omega, ⟨e', by simpa using h7, h8⟩, fun v => by simp [putM, hi, h9]⟩
theorem lookA_sound {t : TypeId} {x ix : Value} {ok : Bool} {K : Value → Mem → Prop} {m : Mem} (h : lookA P t x ix ok K m) : absS P (Instr.lookup t x ix ok) K m := by
  unfold lookA at h
  split at h
  case h_2 => exact h.elim
  rename_i o k i kt et ht
  split at h
  case h_2 => exact h.elim
  rename_i k' inf hk hinf
  split at h
  case h_2 => exact h.elim
  rename_i z hz
  obtain ⟨r, es, cl, L, rfl, hm, hL, h⟩ := h
  obtain ⟨res, hf, hc⟩ := findNow_abs (k := k) (k' := k') (i := i) es.toList L 0 hL
  unfold Instr.lookup
  simp only [underlying, program, getObj, bind, Sem.bind, pure, absS, ht, hm]
  show absS P (Sem.bind _ _) K m
  rw [absS_bind]
  refine checkKey_abs P (n := 9999) hk ?_
  simp only [Instr.findKey, underlying, program, bind, Sem.bind, pure, absS, hk, hf]
  rcases hc with ⟨rfl, h5, _⟩ | ⟨q, u, rfl, h5, _⟩
  · simp only [zeroValue, typeInfo, program, bind, Sem.bind, pure, absS, hinf, hz]
    rw [h5] at h
    cases ok with
    | true => obtain ⟨u, hu, h⟩ := likeC_out h; subst hu; exact h
    | false => obtain ⟨u, hu, h⟩ := likeC_out h; subst hu; exact h
  · rw [h5] at h
    cases ok with
    | true => obtain ⟨u, hu, h⟩ := likeC_out h; subst hu; exact h
    | false => obtain ⟨u, hu, h⟩ := likeC_out h; subst hu; exact h
theorem mupA_sound {t : TypeId} {x ix v : Value} {K : Value → Mem → Prop} {m : Mem} (h : mupA P t x ix v K m) : absS P (Instr.mapUpdate t x ix v) (fun _ m' => K undef m') m := by
  unfold mupA at h
  split at h
  case h_2 => exact h.elim
  rename_i o k i kt et ht
  split at h
  case h_2 => exact h.elim
  rename_i k' hk
  obtain ⟨r, es, cl, L, rfl, hm, hL, h⟩ := h
  obtain ⟨res, hf, hc⟩ := findNow_abs (k := k) (k' := k') (i := i) es.toList L 0 hL
  unfold Instr.mapUpdate
  simp only [underlying, program, getObj, bind, Sem.bind, pure, absS, ht, hm]
  show absS P (Sem.bind _ _) _ m
  rw [absS_bind]
  refine checkKey_abs P (n := 9999) hk ?_
  simp only [Instr.findKey, underlying, program, bind, Sem.bind, pure, absS, hk, hf]
  rcases hc with ⟨rfl, h5, h6⟩ | ⟨q, u, rfl, h5, h6, ⟨e, h7, h8⟩, h9⟩
  · simp only [setObj, absS, hm]
    refine h _ _ ?_
    unfold MapIs at hL ⊢
    rw [h6]
    simp [hL]
  · simp only [Nat.zero_add]
    have he : ((es[q]?).map (·.key)).getD (.int k i) = .int k i := by
      have : es[q]? = some e := by rw [← Array.getElem?_toList]; exact h7
      rw [this]
      exact h8
    rw [he]
    have hs : Instr.sameBits 10000 (.int k i) (.int k i) = true := by
      simp [Instr.sameBits]
    simp only [Instr.keyThatStays, hs, if_true, setObj, bind, Sem.bind, pure, absS, hm]
    refine h _ _ ?_
    unfold MapIs at hL ⊢
    rw [h9, List.map_set]
    rw [Array.toList_modify]
    rw [← hL]
    apply List.ext_getElem?
    intro n
    rw [List.getElem?_map, List.getElem?_modify, List.getElem?_set]
    by_cases hn : q = n
    · subst hn
      have hq : q < es.toList.length := by
        have := congrArg List.length hL
        simp at this
        simp
        omega
      rw [h7]
      have hq' : q < es.size := by simpa using hq
      simp [hq']
    · simp [hn]
end
end Go.Proofs.YtpdcjocjkbgddaaDoor.Abs
