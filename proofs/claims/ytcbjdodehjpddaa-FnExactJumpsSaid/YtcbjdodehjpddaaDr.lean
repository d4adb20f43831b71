/- Contracts of the reference's and the program's Depths and of what they call. -/
import Derived.Test.YtcbjdodehjpddaaDq
namespace Go.Proofs.Ytcbjdodehjpddaa.Abs
open Go.RowKit
set_option linter.unusedVariables false
set_option linter.unusedSimpArgs false
set_option maxRecDepth 20000

/-- By how much an instruction makes the stack greater where it goes on. -/
def mv (op a : Int) : Int :=
  if op = 1 ∨ op = 2 ∨ op = 3 ∨ op = 4 ∨ op = 5 ∨ op = 6 ∨ op = 7 ∨ op = 12 ∨ op = 13 ∨ op = 26 ∨ op = 27 then 1
  else if op = 22 then 2
  else if op = 8 ∨ op = 9 ∨ op = 10 ∨ op = 25 ∨ op = 24 ∨ op = 19 ∨ op = 14 ∨ op = 16 ∨ op = 20 ∨ op = 21 then -1
  else if op = 15 then -3
  else if op = 23 then IntKind.i64.wrap (IntKind.i64.wrap (0 - a) - 2)
  else 0
/-- And where it jumps. -/
def jm (op a : Int) : Int := if op = 20 ∨ op = 21 then 0 else mv op a
def s61 : Spec := fun args m Q => ∃ x : Int × Int, args = [.agg #[.int .i64 x.1, .int .i64 x.2]] ∧ Q (.int .i64 (mv x.1 x.2)) m
theorem f61 (t : Tab) : ∀ args m Q, s61 args m Q → FA Try.prog (look t) kp61 Try.f61 args m Q := by
  rintro args m Q ⟨⟨op, a⟩, rfl, h⟩
  rw [e61]
  refine newA_intro fun g1 m1 hg1 _ hb hle => ?_
  refine ⟨_, cell_of hb 0, ?_⟩
  have fin : ∀ v, v = mv op a → ret Q (.int .i64 v) m1 := fun v e => ret_intro hle (e ▸ h)
  simp only [beq_iff_eq]
  by_cases hk : op ∈ ([1, 2, 3, 4, 5, 6, 7, 12, 13, 26, 27, 22, 8, 9, 10, 25, 24, 19, 14, 16, 20, 21, 15, 23] : List Int)
  · simp only [List.mem_cons, List.not_mem_nil, or_false] at hk
    rcases hk with rfl | rfl | rfl | rfl | rfl | rfl | rfl | rfl | rfl | rfl | rfl | rfl | rfl | rfl | rfl | rfl | rfl | rfl | rfl | rfl | rfl | rfl | rfl | rfl
    all_goals
      simp only [Int.reduceEq, ↓reduceIte]
      first | exact fin _ (by simp [mv]) | exact ⟨_, cell_of hb 1, fin _ (by simp [mv])⟩
  · simp only [List.mem_cons, List.not_mem_nil, or_false, not_or] at hk
    simp only [hk, if_false]
    exact fin _ (by simp [mv, hk])
def s64 : Spec := fun args m Q => ∃ x : Int × Int, args = [.agg #[.int .i64 x.1, .int .i64 x.2]] ∧ Q (.tuple #[.int .i64 (mv x.1 x.2), .int .i64 (jm x.1 x.2)]) m
theorem f64 (t : Tab) : ∀ args m Q, s64 args m Q → FA Try.prog (look t) kp64 Try.f64 args m Q := by
  rintro args m Q ⟨⟨op, a⟩, rfl, h⟩
  rw [e64]
  refine newA_intro fun g1 m1 hg1 _ hb hle => ?_
  refine ⟨_, cell_of hb 0, ?_⟩
  have fin : ∀ v u, v = mv op a → u = jm op a → ret Q (.tuple #[.int .i64 v, .int .i64 u]) m1 := fun v u e e' => ret_intro hle (e ▸ e' ▸ h)
  simp only [beq_iff_eq]
  by_cases hk : op ∈ ([1, 2, 3, 4, 5, 6, 7, 12, 13, 26, 27, 22, 8, 9, 10, 25, 24, 19, 14, 16, 20, 21, 15, 23] : List Int)
  · simp only [List.mem_cons, List.not_mem_nil, or_false] at hk
    rcases hk with rfl | rfl | rfl | rfl | rfl | rfl | rfl | rfl | rfl | rfl | rfl | rfl | rfl | rfl | rfl | rfl | rfl | rfl | rfl | rfl | rfl | rfl | rfl | rfl
    all_goals
      simp only [Int.reduceEq, ↓reduceIte]
      first | exact fin _ _ (by simp [mv]) (by simp [jm, mv]) | exact ⟨Mem.le m1, Mem.le_refl _, _, held (cell_of hb 1), _, held (cell_of hb 1), fin _ _ (by simp [mv]) (by simp [jm, mv])⟩
  · simp only [List.mem_cons, List.not_mem_nil, or_false, not_or] at hk
    simp only [hk, if_false]
    exact fin _ _ (by simp [mv, hk]) (by simp [jm, mv, hk])

/-- A place is come to: it is noted where it is a place that nobody came to yet. -/
def meetM (N : Nat) (st : List Int × List Int) (at_ v : Int) : List Int × List Int :=
  if (0 ≤ at_ ∧ at_ < N) ∧ st.1.getD at_.toNat 0 < 0 ∧ 0 ≤ v then (st.1.set at_.toNat v, st.2 ++ [at_]) else st
abbrev row3 (l : List Int) (spare : List Value) : Obj := .cells (flat Enc.e l ++ spare).toArray 3 (0, 0)
theorem upd_id {m : Mem} {g : Nat} {o : Obj} (h : m g = some o) : m.upd g o = m := by
  funext b
  unfold Mem.upd
  by_cases hb : b = g
  · rw [if_pos hb, hb, h]
  · rw [if_neg hb]
def s60 : Spec := fun args m Q => ∃ (go N nc gt k c : Nat) (st : List Int × List Int) (spare : List Value) (at_ v : Int), args = [.slice (some ⟨go, 0, none⟩) N nc, .slice (some ⟨gt, 0, none⟩) k c, .int .i64 at_, .int .i64 v] ∧
  st.1.length = N ∧ st.2.length = k ∧ 0 < N ∧ N ≤ 2 ^ 40 ∧ k ≤ 2 ^ 40 ∧ k * 1 + spare.length = c * 1 ∧ gt ≠ go ∧ m go = some (row3 st.1 []) ∧ m gt = some (row3 st.2 spare) ∧
  ∀ (gt' c' : Nat) (spare' : List Value), (meetM N st at_ v).2.length * 1 + spare'.length = c' * 1 → gt' ≠ go → (gt' = gt ∨ m gt' = none) →
    Q (.tuple #[.slice (some ⟨go, 0, none⟩) N nc, .slice (some ⟨gt', 0, none⟩) (meetM N st at_ v).2.length c']) ((m.upd go (row3 (meetM N st at_ v).1 [])).upd gt' (row3 (meetM N st at_ v).2 spare'))
theorem f60 (t : Tab) (h85 : look t 85 = s85) : ∀ args m Q, s60 args m Q → FA Try.prog (look t) kp60 Try.f60 args m Q := by
  rintro args m Q ⟨go, N, nc, gt, k, c, ⟨out, todo⟩, spare, at_, v, rfl, hN, hk, hN0, hN1, hk1, hc, hne, hgo, hgt, h⟩
  simp only at hN hk hgo hgt
  rw [e60, h85]
  refine ⟨_, _, _, rfl, _, rfl, ?_⟩
  rw [w64 (by omega) (by omega)]
  have no : ¬ ((0 ≤ at_ ∧ at_ < N) ∧ out.getD at_.toNat 0 < 0 ∧ 0 ≤ v) → ret Q (.tuple #[.slice (some ⟨go, 0, none⟩) N nc, .slice (some ⟨gt, 0, none⟩) k c]) m := by
    intro hn
    unfold meetM at h
    rw [if_neg hn] at h
    have h := h gt c spare (by simpa [hk] using hc) hne (.inl rfl)
    simp only [hk] at h
    rw [upd_id hgo, upd_id hgt] at h
    exact ret_intro (Mem.le_refl _) h
  by_cases c1 : 0 ≤ at_ ∧ at_ ≤ (N : Int) - 1
  case neg => rw [if_neg (by simpa using c1)]; exact no (by omega)
  rw [if_pos (by simpa using c1)]
  have hrd : Rd m (some ⟨go, 0, none⟩) out := Rd.of_block (spare := []) hgo (by simp)
  refine idx' hrd hN c1.1 (by omega) fun ad had hd => ?_
  cases had
  have hlt : at_.toNat < out.length := by omega
  refine ⟨_, hd 0 _ rfl, ?_⟩
  have hget : out.getD at_.toNat 0 = out[at_.toNat] := by simp [List.getD_eq_getElem?_getD, hlt]
  by_cases c2 : out[at_.toNat] < 0
  case neg => rw [if_neg (by simpa using c2)]; exact no (by rw [hget]; omega)
  rw [if_pos (by simpa using c2)]
  by_cases c3 : v ≥ 0
  case neg => rw [if_neg (by simpa using c3)]; exact no (by omega)
  rw [if_pos (by simpa using c3)]
  have hm : meetM N (out, todo) at_ v = (out.set at_.toNat v, todo ++ [at_]) := by
    unfold meetM
    rw [if_pos ⟨⟨c1.1, by omega⟩, by simp only [hget]; exact c2, c3⟩]
  rw [hm] at h
  refine ⟨c1.1, by omega, ?_⟩
  refine sto1 (α := Int) (spare := []) (i := at_.toNat) (j := 0) (x := v) hgo (by rw [add_eq rfl]; exact congrArg (fun x => (⟨go, x, none⟩ : Addr)) (by show 0 + at_.toNat * 1 = at_.toNat * 1 + 0; omega)) rfl hlt (by decide) rfl ?_
  refine newA_intro fun g9 m10 hg9 e9 hb9 hle9 => ?_
  rw [upd_none] at hg9
  have n9t : g9 ≠ gt := by rintro rfl; rw [hgt] at hg9; cases hg9.2
  have hgt10 : m10 gt = some (row3 todo spare) := by rw [e9, upd_ne (Ne.symm n9t), upd_ne hne]; exact hgt
  refine app_own (α := Int) (l := todo) (spare := spare) (x := at_) rfl rfl (by decide) (by decide) hgt10 hk hc hb9 hk1 fun g' c' spare' m' hm' hsz hg' hfr => ?_
  have hgo' : g' ≠ go := by
    rcases hg' with rfl | hg'
    · exact hne
    · rintro rfl
      rw [e9, upd_ne (Ne.symm hg9.1), upd_same] at hg'
      cases hg'
  have h := h g' c' spare' (by simpa [hk] using hsz) hgo' (by
    rcases hg' with rfl | hg'
    · exact .inl rfl
    · refine .inr ?_
      rw [e9, upd_none, upd_none] at hg'
      exact hg'.2.2)
  simp only [List.length_append, List.length_singleton, hk] at h
  refine ret_intro ?_ h
  intro b o hb
  by_cases hb1 : b = g'
  · subst hb1
    rw [upd_same] at hb
    cases hb
    exact hm'
  · rw [upd_ne hb1] at hb
    rw [hfr b hb1, e9]
    by_cases hb2 : b = go
    · subst hb2
      rw [upd_same] at hb
      rw [upd_ne (Ne.symm hg9.1), upd_same]
      exact hb
    · rw [upd_ne hb2] at hb
      rw [upd_ne (by rintro rfl; rw [hg9.2] at hb; cases hb), upd_ne hb2]
      exact hb

abbrev box44 (g n c : Nat) : Obj := .cells #[.slice (some ⟨g, 0, none⟩) n c] 44 (0, 0)
def s62 : Spec := fun args m Q => ∃ (f0 f1 go N nc gt k c : Nat) (st : List Int × List Int) (spare : List Value) (at_ v : Int), args = [.int .i64 at_, .int .i64 v, .pointer (some ⟨f0, 0, none⟩), .pointer (some ⟨f1, 0, none⟩)] ∧
  st.1.length = N ∧ st.2.length = k ∧ N ≤ 2 ^ 40 ∧ k ≤ 2 ^ 40 ∧ k * 1 + spare.length = c * 1 ∧ gt ≠ go ∧ f0 ≠ f1 ∧ m f0 = some (box44 go N nc) ∧ m f1 = some (box44 gt k c) ∧ m go = some (row3 st.1 []) ∧ m gt = some (row3 st.2 spare) ∧
  ∀ (gt' c' : Nat) (spare' : List Value), (meetM N st at_ v).2.length * 1 + spare'.length = c' * 1 → gt' ≠ go → gt' ≠ f0 → gt' ≠ f1 → (gt' = gt ∨ m gt' = none) →
    Q (.tuple #[]) (((m.upd go (row3 (meetM N st at_ v).1 [])).upd gt' (row3 (meetM N st at_ v).2 spare')).upd f1 (box44 gt' (meetM N st at_ v).2.length c'))
theorem f62 (t : Tab) (h63 : look t 63 = s63) : ∀ args m Q, s62 args m Q → FA Try.prog (look t) kp62 Try.f62 args m Q := by
  rintro args m Q ⟨f0, f1, go, N, nc, gt, k, c, ⟨out, todo⟩, spare, at_, v, rfl, hN, hk, hN1, hk1, hc, hne, hff, hf0, hf1, hgo, hgt, h⟩
  simp only at hN hk hgo hgt
  have n0o : f0 ≠ go := by rintro rfl; rw [hf0] at hgo; simp at hgo
  have n0t : f0 ≠ gt := by rintro rfl; rw [hf0] at hgt; simp at hgt
  have n1o : f1 ≠ go := by rintro rfl; rw [hf1] at hgo; simp at hgo
  have n1t : f1 ≠ gt := by rintro rfl; rw [hf1] at hgt; simp at hgt
  rw [e62]
  refine ⟨_, _, _, cell_of hf0 0, ?_⟩
  rw [h63]
  refine ⟨_, _, _, rfl, _, rfl, ?_⟩
  rw [w64 (by omega) (by omega)]
  have no : ¬ ((0 ≤ at_ ∧ at_ < N) ∧ out.getD at_.toNat 0 < 0 ∧ 0 ≤ v) → ret Q (.tuple #[]) m := by
    intro hn
    unfold meetM at h
    rw [if_neg hn] at h
    have h := h gt c spare (by simpa [hk] using hc) hne (Ne.symm n0t) (Ne.symm n1t) (.inl rfl)
    simp only [hk] at h
    rw [upd_id hgo, upd_id hgt, upd_id hf1] at h
    exact ret_intro (Mem.le_refl _) h
  by_cases c1 : 0 ≤ at_ ∧ at_ ≤ (N : Int) - 1
  case neg => rw [if_neg (by simpa using c1)]; exact no (by omega)
  rw [if_pos (by simpa using c1)]
  refine ⟨_, _, _, cell_of hf0 0, ?_⟩
  have hrd : Rd m (some ⟨go, 0, none⟩) out := Rd.of_block (spare := []) hgo (by simp)
  refine idx' hrd hN c1.1 (by omega) fun ad had hd => ?_
  cases had
  have hlt : at_.toNat < out.length := by omega
  refine ⟨_, hd 0 _ rfl, ?_⟩
  have hget : out.getD at_.toNat 0 = out[at_.toNat] := by simp [List.getD_eq_getElem?_getD, hlt]
  by_cases c2 : out[at_.toNat] < 0
  case neg => rw [if_neg (by simpa using c2)]; exact no (by rw [hget]; omega)
  rw [if_pos (by simpa using c2)]
  by_cases c3 : v ≥ 0
  case neg => rw [if_neg (by simpa using c3)]; exact no (by omega)
  rw [if_pos (by simpa using c3)]
  have hm : meetM N (out, todo) at_ v = (out.set at_.toNat v, todo ++ [at_]) := by
    unfold meetM
    rw [if_pos ⟨⟨c1.1, by omega⟩, by simp only [hget]; exact c2, c3⟩]
  rw [hm] at h
  refine ⟨_, _, _, cell_of hf0 0, c1.1, by omega, ?_⟩
  refine sto1 (α := Int) (spare := []) (i := at_.toNat) (j := 0) (x := v) hgo (by rw [add_eq rfl]; exact congrArg (fun x => (⟨go, x, none⟩ : Addr)) (by show 0 + at_.toNat * 1 = at_.toNat * 1 + 0; omega)) rfl hlt (by decide) rfl ?_
  refine ⟨_, _, _, cell_of ((upd_ne n1o).trans hf1) 0, ?_⟩
  refine newA_intro fun g9 m10 hg9 e9 hb9 hle9 => ?_
  rw [upd_none] at hg9
  have n9t : g9 ≠ gt := by rintro rfl; rw [hgt] at hg9; cases hg9.2
  have n9f : g9 ≠ f1 := by rintro rfl; rw [hf1] at hg9; cases hg9.2
  have n9f0 : g9 ≠ f0 := by rintro rfl; rw [hf0] at hg9; cases hg9.2
  have hgt10 : m10 gt = some (row3 todo spare) := by rw [e9, upd_ne (Ne.symm n9t), upd_ne hne]; exact hgt
  have hf10 : m10 f1 = some (box44 gt k c) := by rw [e9, upd_ne (Ne.symm n9f), upd_ne n1o]; exact hf1
  have hf00 : m10 f0 = some (box44 go N nc) := by rw [e9, upd_ne (Ne.symm n9f0), upd_ne n0o]; exact hf0
  refine app_own (α := Int) (l := todo) (spare := spare) (x := at_) rfl rfl (by decide) (by decide) hgt10 hk hc hb9 hk1 fun g' c' spare' m' hm' hsz hg' hfr => ?_
  have hgo' : g' ≠ go := by
    rcases hg' with rfl | hg'
    · exact hne
    · rintro rfl
      rw [e9, upd_ne (Ne.symm hg9.1), upd_same] at hg'
      cases hg'
  have hg'1 : g' ≠ f1 := by
    rcases hg' with rfl | hg'
    · exact Ne.symm n1t
    · rintro rfl; rw [hf10] at hg'; cases hg'
  have hg'0 : g' ≠ f0 := by
    rcases hg' with rfl | hg'
    · exact Ne.symm n0t
    · rintro rfl; rw [hf00] at hg'; cases hg'
  have h := h g' c' spare' (by simpa [hk] using hsz) hgo' hg'0 hg'1 (by
    rcases hg' with rfl | hg'
    · exact .inl rfl
    · refine .inr ?_
      rw [e9, upd_none, upd_none] at hg'
      exact hg'.2.2)
  simp only [List.length_append, List.length_singleton, hk] at h
  refine sto (c := #[.slice (some ⟨gt, 0, none⟩) k c]) (t := 44) ((hfr f1 (Ne.symm hg'1)).trans hf10) rfl (by simp) fun m30 e30 h30 hne30 => ?_
  refine ret_intro ?_ h
  intro b o hb
  by_cases hbf : b = f1
  · subst hbf
    rw [upd_same] at hb
    cases hb
    rw [h30]
    rfl
  rw [upd_ne hbf] at hb
  rw [hne30 b hbf]
  by_cases hb1 : b = g'
  · subst hb1
    rw [upd_same] at hb
    cases hb
    exact hm'
  · rw [upd_ne hb1] at hb
    rw [hfr b hb1, e9]
    by_cases hb2 : b = go
    · subst hb2
      rw [upd_same] at hb
      rw [upd_ne (Ne.symm hg9.1), upd_same]
      exact hb
    · rw [upd_ne hb2] at hb
      rw [upd_ne (by rintro rfl; rw [hg9.2] at hb; cases hb), upd_ne hb2]
      exact hb
end Go.Proofs.Ytcbjdodehjpddaa.Abs
