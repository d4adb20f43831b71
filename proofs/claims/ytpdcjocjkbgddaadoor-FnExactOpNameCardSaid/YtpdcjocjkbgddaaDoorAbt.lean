/- The abstract run of operations, regions, code and whole functions, and its soundness. No condition. -/
import Derived.Test.YtpdcjocjkbgddaaDoorAbs
import Derived.OrdersHeld
namespace Go.Proofs.YtpdcjocjkbgddaaDoor.Abs
open Go.RowKit

abbrev TT := List (Option Value)
def evalT (T : TT) : Operand → Option Value
  | .tmp t => (T[t]?).join
  | .const v => some v
  | .global g => some (.pointer (some ⟨g, 0, none⟩))
  | .func f => some (.func (.func f) #[] #[])
def ev (T : TT) (x : Operand) : Value := (evalT T x).getD undef
def TT.put (T : TT) (d : Option Tmp) (v : Value) : TT :=
  match d with
  | some d => T.set d (some v)
  | none => T
def TT.keep (ks : List Nat) : Nat → TT → TT
  | _, [] => []
  | i, x :: r => (match ks.contains i with | true => x | false => none) :: TT.keep ks (i + 1) r
structure Knows (T : TT) (a : Act) : Prop where
  size : a.tmps.size = T.length
  defers : a.defers = []
  slot : ∀ (i : Nat) (v : Value), T[i]? = some (some v) → a.tmps[i]? = some v

theorem Knows.eval {T : TT} {a : Act} (h : Knows T a) {x : Operand} (hx : (evalT T x).isSome = true) : a.eval x = ev T x := by
  unfold ev
  cases x with
  | tmp t =>
    simp only [evalT] at hx ⊢
    cases e : T[t]? with
    | none => rw [e] at hx; simp at hx
    | some y =>
      cases y with
      | none => rw [e] at hx; simp at hx
      | some v => simp [Act.eval, h.slot t v e]
  | const v => rfl
  | global g => rfl
  | func f => rfl
theorem Knows.put {T : TT} {a : Act} (h : Knows T a) (d : Option Tmp) (v : Value) : Knows (T.put d v) (a.put d v) := by
  cases d with
  | none => exact h
  | some d =>
    refine ⟨by simp [TT.put, Act.put, h.size], h.defers, fun i u e => ?_⟩
    simp only [TT.put] at e
    simp only [Act.put]
    by_cases hi : d = i
    · subst hi
      rw [List.getElem?_set] at e
      by_cases hd : d < T.length
      · have hlt : d < a.tmps.size := by rw [h.size]; exact hd
        simp only [hd, if_true] at e
        rw [Array.getElem?_setIfInBounds_self_of_lt hlt]
        simpa using e
      · simp [hd] at e
    · rw [List.getElem?_set_ne hi] at e
      rw [Array.getElem?_setIfInBounds_ne hi]
      exact h.slot i u e
theorem TT.keep_length (ks : List Nat) : ∀ (i : Nat) (T : TT), (TT.keep ks i T).length = T.length
  | _, [] => rfl
  | i, _ :: r => by simp [TT.keep, TT.keep_length ks (i + 1) r]
theorem TT.keep_get (ks : List Nat) : ∀ (k i : Nat) (T : TT) (v : Value), (TT.keep ks k T)[i]? = some (some v) → T[i]? = some (some v)
  | _, i, [], v, h => by simp [TT.keep] at h
  | k, 0, x :: r, v, h => by
    simp only [TT.keep, List.getElem?_cons_zero] at h ⊢
    cases hc : ks.contains k <;> rw [hc] at h
    · cases h
    · exact h
  | k, i + 1, x :: r, v, h => by
    simp only [TT.keep, List.getElem?_cons_succ] at h ⊢
    exact TT.keep_get ks (k + 1) i r v h
theorem Knows.keep {T : TT} {a : Act} (h : Knows T a) (ks : List Nat) : Knows (TT.keep ks 0 T) a :=
  ⟨by rw [TT.keep_length]; exact h.size, h.defers, fun i v e => h.slot i v (TT.keep_get ks 0 i T v e)⟩

/-! ### Loads, each cell of the kind that its type's zero value shows -/
def likeC (z : Value) (K : Value → Prop) : Prop :=
  match z with
  | .int k _ => ∃ x : Int, K (.int k x)
  | .bool _ => ∃ x : Bool, K (.bool x)
  | .string _ => ∃ x : ByteArray, K (.string x)
  | .slice _ _ _ => ∃ (x : Option Addr) (n c : Nat), K (.slice x n c)
  | .pointer _ => ∃ x : Option Addr, K (.pointer x)
  | .map _ => ∃ x : Option Nat, K (.map x)
  | _ => ∃ x : Value, K x
theorem likeC_out {z : Value} {K : Value → Prop} (h : likeC z K) : ∃ v, K v := by
  unfold likeC at h
  split at h
  case h_4 => obtain ⟨x, n, c, h⟩ := h; exact ⟨_, h⟩
  all_goals obtain ⟨x, h⟩ := h; exact ⟨_, h⟩
/-- cell: what is known to stand there. -/
def ldCells (cell : Addr → Value → Prop) (a : Addr) (K : Array Value → Prop) : List Value → Nat → Array Value → Prop
  | [], _, acc => K acc
  | z :: zs, i, acc => likeC z fun v => cell (a.add i) v ∧ ldCells cell a K zs (i + 1) (acc.push v)
def isAggD : TypeDesc → Bool
  | .struct _ | .array _ _ => true
  | _ => false
def ldOp (P : Program) (cell : Addr → Value → Prop) (t : TypeId) (p : Value) (K : Value → Prop) : Prop :=
  match p, P.info? t, P.underlying t with
  | .pointer (some a), some i, some d => match i.zero with
    | some z => match isAggD d with
      | true => match z.cells.size == i.size with
        | true => ldCells cell a (fun cs => K (.agg cs)) z.cells.toList 0 #[]
        | false => False
      | false => likeC z fun v => cell a v ∧ K v
    | none => False
  | _, _, _ => False

section
variable (P : Program)
theorem rdS_bind {α β : Type} (s : Sem α) (f : α → Sem β) (Q : β → Prop) (m : Mem) : rdS P (s.bind f) Q m = rdS P s (fun a => rdS P (f a) Q m) m := by
  induction s with
  | pure a => rfl
  | load md a k ih => simp only [Sem.bind, rdS, ih]
  | store md a v k ih => rfl
  | new o k ih => rfl
  | shape r k ih => simp only [Sem.bind, rdS, ih]
  | freeze a n k ih => rfl
  | frozen a k ih => simp only [Sem.bind, rdS, ih]
  | getObj r k ih => simp only [Sem.bind, rdS, ih]
  | setObj r o k ih => rfl
  | choose q k ih => simp only [Sem.bind, rdS, ih]
  | sys c k ih => rfl
  | program k ih => simp only [Sem.bind, rdS, ih]
  | mark mk k ih => simp only [Sem.bind, rdS, ih]
  | halt h => rfl

theorem run_bind {α β : Type} (s : Sem α) (f : α → Sem β) {w w' : World} {x : α} (h : s.run P w = .ok x w') : (s.bind f).run P w = (f x).run P w' := by
  show (s >>= f).run P w = _
  rw [Sem.run_bind, h]
  rfl
theorem loadCells_run {w : World} (a : Addr) : ∀ (vs : List Value) (i : Nat) (acc : Array Value), (∀ j v, vs[j]? = some v → w.cell? (a.add (i + j)) = some v) →
    (loadCellsFrom a i vs.length acc).run P w = .ok (acc ++ vs.toArray) w
  | [], i, acc, _ => by simp only [List.length_nil, loadCellsFrom, pure, Sem.run]; simp
  | v :: vs, i, acc, h => by
    have h0 : w.cell? (a.add i) = some v := h 0 v rfl
    simp only [List.length_cons, loadCellsFrom, load, bind, Sem.bind, Sem.run, h0]
    rw [loadCells_run a vs (i + 1) (acc.push v) (fun j u e => by have := h (j + 1) u e; rwa [Nat.add_assoc, Nat.add_comm 1 j])]
    congr 1
    apply Array.ext'
    simp
theorem ldCells_out {cell : Addr → Value → Prop} {a : Addr} {K : Array Value → Prop} : ∀ (zs : List Value) (i : Nat) (acc : Array Value), ldCells cell a K zs i acc →
    ∃ vs : List Value, vs.length = zs.length ∧ (∀ j v, vs[j]? = some v → cell (a.add (i + j)) v) ∧ K (acc ++ vs.toArray)
  | [], i, acc, h => ⟨[], rfl, fun j v e => by simp at e, by simpa [ldCells] using h⟩
  | z :: zs, i, acc, h => by
    obtain ⟨v, hv, h⟩ := likeC_out h
    obtain ⟨vs, hl, hc, hk⟩ := ldCells_out zs (i + 1) (acc.push v) h
    refine ⟨v :: vs, by simp [hl], fun j u e => ?_, ?_⟩
    · cases j with
      | zero => simp at e; subst e; exact hv
      | succ j => have := hc j u (by simpa using e); rwa [Nat.add_assoc, Nat.add_comm 1 j] at this
    · have e : acc.push v ++ vs.toArray = acc ++ (v :: vs).toArray := by apply Array.ext'; simp
      rw [← e]
      exact hk
/-- A load has its one value in every world in which its cells have theirs. -/
theorem ldOp_out {cell : Addr → Value → Prop} {t : TypeId} {p : Value} {K : Value → Prop} (h : ldOp P cell t p K) :
    ∃ v, K v ∧ ∀ w : World, (∀ a u, cell a u → w.cell? a = some u) → (Instr.loadAt t p).run P w = .ok v w := by
  unfold ldOp at h
  split at h
  case h_2 => exact h.elim
  rename_i a i d hi hd
  cases hz : i.zero with
  | none => rw [hz] at h; exact h.elim
  | some z =>
    rw [hz] at h
    simp only at h
    cases ha : isAggD d with
    | false =>
      rw [ha] at h
      obtain ⟨v, hv, hk⟩ := likeC_out h
      refine ⟨v, hk, fun w hw => ?_⟩
      simp only [Instr.loadAt, Instr.sureAddr, loadVar, isAgg, underlying, program, bind, Sem.bind, pure, Sem.run, hd]
      cases d <;> first | (cases ha; done) | simp only [Sem.run, Sem.bind, load, hw a v hv, Bool.false_eq_true, if_false]
    | true =>
      rw [ha] at h
      cases hs : (z.cells.size == i.size) with
      | false => rw [hs] at h; exact h.elim
      | true =>
        rw [hs] at h
        obtain ⟨vs, hl, hc, hk⟩ := ldCells_out _ _ _ h
        refine ⟨.agg vs.toArray, by simpa using hk, fun w hw => ?_⟩
        have hn : i.size = vs.length := by rw [hl]; simpa using (beq_iff_eq.1 hs).symm
        have hr := loadCells_run P (w := w) a vs 0 #[] (fun j u e => hw _ _ (hc j u e))
        simp only [Instr.loadAt, Instr.sureAddr, loadVar, isAgg, underlying, sizeOf, typeInfo, program, bind, Sem.bind, pure, Sem.run, hd]
        cases d <;> first | (cases ha; done) | (simp only [Sem.run, Sem.bind, hi, if_true, hn, loadCells]; rw [run_bind P _ _ hr]; simp [Sem.run])
end
end Go.Proofs.YtpdcjocjkbgddaaDoor.Abs
