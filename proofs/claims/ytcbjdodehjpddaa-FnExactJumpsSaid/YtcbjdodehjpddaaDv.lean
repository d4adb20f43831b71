/- The law FnExactDepths over the printed equations: it answers true. -/
import Derived.Test.YtcbjdodehjpddaaDu
namespace Go.Proofs.Ytcbjdodehjpddaa.Abs
open Go.RowKit
set_option linter.unusedVariables false
set_option linter.unusedSimpArgs false
set_option maxRecDepth 20000

theorem le_none {m M : Mem} {g : Nat} (h : Mem.le m M) (hg : M g = none) : m g = none := by
  cases e : m g with
  | none => rfl
  | some o => rw [h _ _ e] at hg; cases hg
theorem le_ne {m M : Mem} {g b : Nat} {o : Obj} (h : Mem.le m M) (hg : M g = none) (hb : m b = some o) : b ≠ g := ne_of_none (le_none h hg) hb

theorem meetM_len {N : Nat} {st : St} {a v : Int} : (meetM N st a v).1.length = st.1.length := by
  unfold meetM
  split
  · simp
  · rfl
theorem stepD_len (code : List (Int × Int)) (st : St) (i : Nat) : (stepD code st i).1.length = st.1.length := by
  have h1 : ∀ (c : Prop) [Decidable c] a v, (if c then st else meetM code.length st a v).1.length = st.1.length := by
    intro c _ a v
    split
    · rfl
    · exact meetM_len
  unfold stepD
  simp only
  split
  · exact meetM_len.trans (h1 _ _ _)
  · split
    · exact meetM_len.trans (h1 _ _ _)
    · exact h1 _ _ _
theorem runD_len (code : List (Int × Int)) : ∀ (f i : Nat) (st : St), (runD code f i st).length = st.1.length
  | 0, _, _ => rfl
  | f + 1, i, st => by
    simp only [runD]
    split
    · rw [runD_len code f, stepD_len]
    · rfl
theorem depthsM_len (code : List (Int × Int)) : (depthsM code).length = code.length := by
  unfold depthsM
  split
  · rename_i h; rw [h]; rfl
  · rw [runD_len]; simp

def s5 : Spec := fun args m Q => ∃ (p s : Int) (ua : Option Addr) (un uc : Nat) (ca : Option Addr) (cn cc : Nat) (lu : List (Bool × Int)) (lc : List (Int × Int)), args = [.agg #[.int .i64 p, .int .i64 s, .slice ua un uc, .slice ca cn cc]] ∧
  lu.length = un ∧ lc.length = cn ∧ un ≤ 9223372036854775807 ∧ cn ≤ 9223372036854775807 ∧ Rd m ua lu ∧ Rd m ca lc ∧ ∀ M, Mem.le m M → Q (.bool true) M
theorem f5 (t : Tab) (h17 : look t 17 = s17) (h19 : look t 19 = s19) (h24 : look t 24 = s24) (h25 : look t 25 = s25) (h26 : look t 26 = s26) (h21 : look t 21 = s21) (h22 : look t 22 = s22) (h27 : look t 27 = s27) (h28 : look t 28 = s28) :
    ∀ args m Q, s5 args m Q → FA Try.prog (look t) kp5 Try.f5 args m Q := by
  rintro args m Q ⟨p, s, ua, un, uc, ca, cn, cc, lu, lc, rfl, hlu, hlc, hun, hcn, hru, hrc, h⟩
  rw [e5]
  refine newA_intro fun g1 m2 hg1 e2 hb1 hle2 => ?_
  have hru := hru.le hle2
  have hrc := hrc.le hle2
  have h : ∀ M, Mem.le m2 M → Q (.bool true) M := fun M hM => h M (Mem.le_trans hle2 hM)
  clear e2 hle2
  refine ⟨_, cell_of hb1 0, _, cell_of hb1 1, _, _, _, cell_of hb1 2, _, _, _, cell_of hb1 3, via h17 ⟨_, _, _, _, _, _, _, _, _, rfl, hun, hcn, by omega, by omega, _, rfl, ?_⟩⟩
  by_cases hz : szP 1048576 un cn < 0
  · rw [if_pos (by simpa using hz)]; exact ret_intro (Mem.le_refl _) (h _ (Mem.le_refl _))
  rw [if_neg (by simpa using hz)]
  have hsz : un ≤ 2 ^ 20 ∧ cn ≤ 2 ^ 20 := by
    unfold szP at hz
    split at hz
    · omega
    · split at hz <;> omega
  obtain ⟨hun, hcn⟩ := hsz
  clear hz
  refine ⟨_, cell_of hb1 0, _, cell_of hb1 1, _, _, _, cell_of hb1 2, _, _, _, cell_of hb1 3, via h19 ⟨_, _, _, _, _, _, _, _, lu, lc, rfl, hlu, hlc, by omega, by omega, hru, hrc, fun a1 a2 ha1 ha2 ha12 => ?_⟩⟩
  obtain ⟨M, hM⟩ : ∃ M, M = (m2.upd a1 (.cells (flat Enc.e lu).toArray 101 (0, 0))).upd a2 (.cells (flat Enc.e lc).toArray 73 (0, 0)) := ⟨_, rfl⟩
  rw [← hM]
  have le : Mem.le m2 M := by rw [hM]; exact le_upd_fresh (le_upd_fresh (Mem.le_refl _) ha1) ha2
  have hb2 : M a2 = some (.cells (flat Enc.e lc).toArray 73 (0, 0)) := by rw [hM]; exact upd_same _ _ _
  clear hM
  refine ⟨_, _, _, _, _, _, _, _, rfl, via h24 ⟨_, _, _, _, _, _, _, _, lc, rfl, hlc, by omega, Rd.of_block (spare := []) hb2 (by simp), fun gd hgd => ?_⟩⟩
  obtain ⟨M1, hM⟩ : ∃ M1, M1 = M.upd gd (row3 (depthsM lc) []) := ⟨_, rfl⟩
  rw [← hM]
  have le1 : Mem.le m2 M1 := by rw [hM]; exact le_upd_fresh le (le_none le hgd)
  have hd1 : M1 gd = some (row3 (depthsM lc) []) := by rw [hM]; exact upd_same _ _ _
  clear hM hb2 le hgd ha1 ha2 ha12
  have c1 := le1 _ _ hb1
  refine ⟨_, _, _, rfl, _, cell_of c1 0, _, cell_of c1 1, _, _, _, cell_of c1 2, _, _, _, cell_of c1 3, via h19 ⟨_, _, _, _, _, _, _, _, lu, lc, rfl, hlu, hlc, by omega, by omega, hru.le le1, hrc.le le1, fun gu gc hgu hgc hne => ?_⟩⟩
  obtain ⟨M2, hM⟩ : ∃ M2, M2 = (M1.upd gu (.cells (flat Enc.e lu).toArray 101 (0, 0))).upd gc (.cells (flat Enc.e lc).toArray 73 (0, 0)) := ⟨_, rfl⟩
  rw [← hM]
  have le2 : Mem.le M1 M2 := by rw [hM]; exact le_upd_fresh (le_upd_fresh (Mem.le_refl _) hgu) hgc
  have hu2 : M2 gu = some (.cells (flat Enc.e lu).toArray 101 (0, 0)) := by rw [hM, upd_ne (Ne.symm hne)]; exact upd_same _ _ _
  have hc2 : M2 gc = some (.cells (flat Enc.e lc).toArray 73 (0, 0)) := by rw [hM]; exact upd_same _ _ _
  clear hM
  refine ⟨_, _, _, _, _, _, _, _, rfl, newA_intro fun g67 m68 hg67 e68 hb68 hle68 => ?_⟩
  refine sto (c := #[.int .i64 0, .int .i64 0, .slice none 0 0, .slice none 0 0]) (t := 38) hb68 rfl (by simp) fun M3 e69 h69 hne69 => ?_
  have h69 : M3 g67 = some (.cells #[.int .i64 p, .int .i64 s, .slice (some ⟨gu, 0, none⟩) un un, .slice (some ⟨gc, 0, none⟩) cn cn] 38 (0, 0)) := h69
  have le3 : Mem.le M2 M3 := by rw [e69, e68, upd_upd]; exact le_upd hg67
  clear e69 e68 hb68 hle68 hne69
  refine ⟨_, cell_of h69 0, _, cell_of h69 1, _, _, _, cell_of h69 2, _, _, _, cell_of h69 3, via h25 ⟨_, _, _, _, _, _, _, _, lc, rfl, hlc, by omega, Rd.of_block (spare := []) (le3 _ _ hc2) (by simp), fun ge hge => ?_⟩⟩
  obtain ⟨M4, hM⟩ : ∃ M4, M4 = M3.upd ge (row3 (depthsM lc) []) := ⟨_, rfl⟩
  rw [← hM]
  have le4 : Mem.le M3 M4 := by rw [hM]; exact le_upd hge
  have he4 : M4 ge = some (row3 (depthsM lc) []) := by rw [hM]; exact upd_same _ _ _
  clear hM
  have hdl : (depthsM lc).length = cn := by rw [← hlc]; exact depthsM_len lc
  have d4 := le4 _ _ (le3 _ _ (le2 _ _ hd1))
  refine ⟨_, _, _, rfl, via h26 ⟨_, _, _, _, _, _, depthsM lc, depthsM lc, rfl, hdl, hdl, by omega, Rd.of_block (spare := []) he4 rfl, Rd.of_block (spare := []) d4 rfl, _, rfl, ?_⟩⟩
  rw [if_neg (by simp)]
  have x4 := le4 _ _ h69
  have l4 : Mem.le m2 M4 := Mem.le_trans le1 (Mem.le_trans le2 (Mem.le_trans le3 le4))
  have c4 := l4 _ _ hb1
  refine ⟨Mem.le M4, Mem.le_refl _, _, held (cell_of x4 0), _, held (cell_of x4 1), _, _, _, held (cell_of x4 2), _, _, _, held (cell_of x4 3), _, held (cell_of c4 0), _, held (cell_of c4 1), _, _, _, held (cell_of c4 2), _, _, _, held (cell_of c4 3), ?_⟩
  refine via h19 ⟨_, _, _, _, _, _, _, _, lu, lc, rfl, hlu, hlc, by omega, by omega, hru.le l4, hrc.le l4, fun a1 a2 ha1 ha2 ha12 => ?_⟩
  obtain ⟨M5, hM⟩ : ∃ M5, M5 = (M4.upd a1 (.cells (flat Enc.e lu).toArray 101 (0, 0))).upd a2 (.cells (flat Enc.e lc).toArray 73 (0, 0)) := ⟨_, rfl⟩
  rw [← hM]
  have le5 : Mem.le M4 M5 := by rw [hM]; exact le_upd_fresh (le_upd_fresh (Mem.le_refl _) ha1) ha2
  have hu5 : M5 a1 = some (.cells (flat Enc.e lu).toArray 101 (0, 0)) := by rw [hM, upd_ne (Ne.symm ha12)]; exact upd_same _ _ _
  have hc5 : M5 a2 = some (.cells (flat Enc.e lc).toArray 73 (0, 0)) := by rw [hM]; exact upd_same _ _ _
  clear hM
  have u5 := le5 _ _ (le4 _ _ (le3 _ _ hu2))
  have v5 := le5 _ _ (le4 _ _ (le3 _ _ hc2))
  refine ⟨_, _, _, _, _, _, _, _, rfl, le5, via h21 ⟨_, _, _, _, _, _, _, _, lu, lc, _, _, _, _, _, _, _, _, lu, lc, rfl, hlu, hlc, hlu, hlc, by omega, by omega, Rd.of_block (spare := []) u5 (by simp), Rd.of_block (spare := []) v5 (by simp), Rd.of_block (spare := []) hu5 (by simp), Rd.of_block (spare := []) hc5 (by simp), ?_⟩⟩
  refine ⟨true, by simp, le5, ?_⟩
  rw [if_neg (by simp)]
  have x5 := le5 _ _ x4
  refine ⟨_, cell_of x5 0, _, cell_of x5 1, _, _, _, cell_of x5 2, _, _, _, cell_of x5 3, via h22 ⟨_, _, _, _, _, _, _, _, lu, lc, _, rfl, hlu, hlc, by omega, by omega, by omega, by omega, Ne.symm hne, u5, v5, ?_⟩⟩
  refine ⟨_, rfl, ?_⟩
  rw [if_neg (by simp; omega)]
  have d5 := le5 _ _ d4
  have e5 := le5 _ _ he4
  have lm5 : Mem.le m2 M5 := Mem.le_trans l4 le5
  have nud : gd ≠ gu := ne_of_none hgu hd1
  have ncd : gd ≠ gc := ne_of_none hgc hd1
  have nue : gu ≠ ge := le_ne le3 hge hu2
  have nce : gc ≠ ge := le_ne le3 hge hc2
  have nde : gd ≠ ge := le_ne (Mem.le_trans le2 le3) hge hd1
  obtain ⟨M6, hM⟩ : ∃ M6, M6 = (M5.upd gu (.cells (flat Enc.e (marks56 1 un)).toArray 101 (0, 0))).upd gc (.cells (flat Enc.e (marks57 (1 + 2 * un) cn)).toArray 73 (0, 0)) := ⟨_, rfl⟩
  rw [← hM]
  have lm6 : Mem.le m2 M6 := by rw [hM]; exact le_upd_fresh (le_upd_fresh lm5 (le_none le1 hgu)) (le_none le1 hgc)
  have d6 : M6 gd = some (row3 (depthsM lc) []) := by rw [hM, upd_ne ncd, upd_ne nud]; exact d5
  have e6 : M6 ge = some (row3 (depthsM lc) []) := by rw [hM, upd_ne (Ne.symm nce), upd_ne (Ne.symm nue)]; exact e5
  clear hM
  refine via h26 ⟨_, _, _, _, _, _, depthsM lc, depthsM lc, rfl, hdl, hdl, by omega, Rd.of_block (spare := []) e6 rfl, Rd.of_block (spare := []) d6 rfl, _, rfl, ?_⟩
  rw [if_neg (by simp)]
  refine via h27 ⟨_, _, _, depthsM lc, [], _, rfl, hdl, by omega, by omega, by omega, e6, _, rfl, ?_⟩
  obtain ⟨M7, hM⟩ : ∃ M7, M7 = M6.upd ge (.cells (flat Enc.e (marks 1 cn) ++ []).toArray 3 (0, 0)) := ⟨_, rfl⟩
  rw [← hM]
  have lm7 : Mem.le m2 M7 := by rw [hM]; exact le_upd_fresh lm6 (le_none (Mem.le_trans le1 (Mem.le_trans le2 le3)) hge)
  have d7 : M7 gd = some (row3 (depthsM lc) []) := by rw [hM, upd_ne nde]; exact d6
  have e7 : M7 ge = some (.cells (flat Enc.e (marks 1 cn) ++ []).toArray 3 (0, 0)) := by rw [hM]; exact upd_same _ _ _
  clear hM
  refine via h28 ⟨_, _, _, _, rfl, by omega, by omega, by omega, Rd.of_block (spare := []) e7 (by simp), _, rfl, ?_⟩
  rw [if_neg (by simp; omega), if_neg (by simp)]
  have c7 := lm7 _ _ hb1
  refine ⟨_, cell_of c7 0, _, cell_of c7 1, _, _, _, cell_of c7 2, _, _, _, cell_of c7 3, via h19 ⟨_, _, _, _, _, _, _, _, lu, lc, rfl, hlu, hlc, by omega, by omega, hru.le lm7, hrc.le lm7, fun b1 b2 hb1' hb2' hb12 => ?_⟩⟩
  obtain ⟨M8, hM⟩ : ∃ M8, M8 = (M7.upd b1 (.cells (flat Enc.e lu).toArray 101 (0, 0))).upd b2 (.cells (flat Enc.e lc).toArray 73 (0, 0)) := ⟨_, rfl⟩
  rw [← hM]
  have le8 : Mem.le M7 M8 := by rw [hM]; exact le_upd_fresh (le_upd_fresh (Mem.le_refl _) hb1') hb2'
  have c8 : M8 b2 = some (.cells (flat Enc.e lc).toArray 73 (0, 0)) := by rw [hM]; exact upd_same _ _ _
  clear hM
  refine ⟨_, _, _, _, _, _, _, _, rfl, via h25 ⟨_, _, _, _, _, _, _, _, lc, rfl, hlc, by omega, Rd.of_block (spare := []) c8 (by simp), fun gf hgf => ?_⟩⟩
  have le9 : Mem.le M8 (M8.upd gf (row3 (depthsM lc) [])) := le_upd hgf
  have f9 : (M8.upd gf (row3 (depthsM lc) [])) gf = some (row3 (depthsM lc) []) := upd_same _ _ _
  generalize M8.upd gf (row3 (depthsM lc) []) = M9 at *
  have l79 := Mem.le_trans le8 le9
  refine ⟨_, _, _, rfl, via h26 ⟨_, _, _, _, _, _, depthsM lc, depthsM lc, rfl, hdl, hdl, by omega, Rd.of_block (spare := []) f9 rfl, Rd.of_block (spare := []) (l79 _ _ d7) rfl, _, rfl, ?_⟩⟩
  rw [if_neg (by simp)]
  refine via h28 ⟨_, _, _, _, rfl, by omega, by omega, by omega, Rd.of_block (spare := []) (l79 _ _ e7) (by simp), _, rfl, ?_⟩
  rw [if_neg (by simp; omega), if_neg (by simp)]
  exact ret_intro (Mem.le_refl _) (h _ (Mem.le_trans lm7 l79))
end Go.Proofs.Ytcbjdodehjpddaa.Abs
