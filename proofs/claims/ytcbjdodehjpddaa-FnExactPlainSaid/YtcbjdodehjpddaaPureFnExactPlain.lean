/- The pure statement of FnExactPlain: the program's Plain, the reference's Plain and the law's copies, marks and looks, as list functions, answer true for every list. -/
import Derived.Test.YtcbjdodehjpddaaPFnExactPlainx
import Derived.Test.YtcbjdodehjpddaaOpFnExactPlain
import Derived.Test.YtcbjdodehjpddaaPl
namespace Go.Proofs.Ytcbjdodehjpddaa.Pure
open Go.RowKit Go.Proofs.YtcbjdodehjpddaaW.PrintWords Go.Proofs.Ytcbjdodehjpddaa.PFnExactPlain Go.Proofs.Ytcbjdodehjpddaa.OpFnExactPlain Go.Proofs.Ytcbjdodehjpddaa.Pl

def conv (x : S66) : S64 := ⟨x.f0, x.f1⟩
def isRun (x : S64) : Bool := decide (x.f0 = 1)

theorem toActS_is (l : List S66) (hl : l.length ≤ 1048576) (k : Nat) (hk : l.length < k) : laws_toActS.f k l = some (l.map conv) := by
  unfold laws_toActS.f
  rw [if_pos (by omega), if_pos (by omega)]
  have h := loop_up (fun k (s : List S64 × Int) => laws_toActS.l0 k l s.1 s.2) 0 l.length
    (fun i => ((List.range i).map (fun i => conv (l.getD i z66)) ++ (List.replicate l.length z64).drop i, (i : Int))) (l.map conv)
    (by
      intro i k hi _
      have hu := upd_len (fun i => conv (l.getD i z66)) (List.replicate l.length z64) i (by simp; omega)
      simp only [List.length_replicate] at hu
      simp only [laws_toActS.l0, laws_toAct.f, Option.bind_some]
      rw [if_pos (by omega), if_pos (by omega), if_pos (by rw [hu]; omega)]
      rw [w64 (by omega) (by omega)]
      rw [show ((i : Int)).toNat = i from by omega]
      rw [show (⟨(rd_T66 l i).f0, (rd_T66 l i).f1⟩ : S64) = (fun i => conv (l.getD i z66)) i from by simp [rd_T66, conv]]
      rw [upd _ _ i (by simp; omega)]
      simp)
    (by
      intro k _
      simp only [laws_toActS.l0]
      rw [if_neg (by omega)]
      have := upd_end (fun i => conv (l.getD i z66)) (List.replicate l.length z64)
      simp only [List.length_replicate] at this
      rw [this, map_range]) k (by omega)
  simpa using h

theorem spec_Plain_is (l : List S64) (hl : l.length ≤ 1048576) (k : Nat) (hk : l.length < k) : spec_Plain.f k l = some (l.filter isRun) := by
  unfold spec_Plain.f
  have h := loop_up (fun k (s : List S64 × Int) => spec_Plain.l0 k l s.1 s.2) 0 l.length
    (fun i => ((l.take i).filter isRun, (i : Int))) (l.filter isRun)
    (by
      intro i k hi _
      have hle : ((l.take i).filter isRun).length ≤ i := Nat.le_trans (List.length_filter_le _ _) (by simp; omega)
      simp only [spec_Plain.l0]
      rw [if_pos (by omega), if_pos (by omega), w64 (by omega) (by omega), filter_take isRun l i z64 hi]
      have e : rd_T64 l i = l.getD i z64 := by simp [rd_T64]
      rw [e]
      clear e
      generalize l.getD i z64 = q
      by_cases hc : q.f0 = 1
      · rw [if_pos hc, if_pos (by omega), show (⟨q.f0, q.f1⟩ : S64) = q from rfl]
        simp [isRun, hc]
      · rw [if_neg hc]
        simp [isRun, hc])
    (by
      intro k _
      simp only [spec_Plain.l0]
      rw [if_neg (by omega)]
      simp) k (by omega)
  simpa using h

theorem impl_Plain_is (l : List S64) (hl : l.length ≤ 1048576) (k : Nat) (hk : l.length < k) : impl_Plain.f k l = some (l.filter isRun) := by
  unfold impl_Plain.f
  have h := loop_up (fun k (s : List S64 × Int) => impl_Plain.l0 k s.1 l (l.length : Int) s.2) 0 l.length
    (fun i => ((l.take i).filter isRun, (i : Int))) (l.filter isRun)
    (by
      intro i k hi _
      have hle : ((l.take i).filter isRun).length ≤ i := Nat.le_trans (List.length_filter_le _ _) (by simp; omega)
      simp only [impl_Plain.l0]
      rw [if_pos (by omega), if_pos (by omega), if_pos (by omega), w64 (by omega) (by omega), filter_take isRun l i z64 hi]
      have e : rd_T64 l i = l.getD i z64 := by simp [rd_T64]
      rw [e]
      clear e
      generalize l.getD i z64 = q
      by_cases hc : q.f0 = 1
      · rw [if_pos hc, if_pos (by omega), show (⟨q.f0, q.f1⟩ : S64) = q from rfl]
        simp [isRun, hc]
      · rw [if_neg hc]
        simp [isRun, hc])
    (by
      intro k _
      simp only [impl_Plain.l0]
      rw [if_neg (by omega)]
      simp) k (by omega)
  simpa using h

theorem eqActS_is (l : List S64) (hl : l.length ≤ 1048576) (k : Nat) (hk : l.length < k) : laws_eqActS.f k l l = some true := by
  unfold laws_eqActS.f
  rw [if_pos rfl]
  have h := loop_up (fun k (s : Int) => laws_eqActS.l0 k l l s) 0 l.length (fun i => (i : Int)) true
    (by
      intro i k hi _
      simp only [laws_eqActS.l0, laws_eqAct.f]
      rw [if_pos (by omega), if_pos (by omega), if_pos (by omega), w64 (by omega) (by omega)]
      simp)
    (by
      intro k _
      simp only [laws_eqActS.l0]
      rw [if_neg (by omega)]) k (by omega)
  simpa using h

def mark (i : Nat) : S64 := ⟨1 + 2 * i, 1 + 2 * i + 1⟩
theorem markActS_is (l : List S64) (hl : l.length ≤ 1048576) (k : Nat) (hk : l.length < k) :
    laws_markActS.f k l 1 = some (1 + 2 * (l.length : Int), (List.range l.length).map mark) := by
  unfold laws_markActS.f
  have h := loop_up (fun k (s : List S64 × Int × Int) => laws_markActS.l0 k s.1 s.2.1 s.2.2) 0 l.length
    (fun i => ((List.range i).map mark ++ l.drop i, 1 + 2 * (i : Int), (i : Int))) (1 + 2 * (l.length : Int), (List.range l.length).map mark)
    (by
      intro i k hi _
      have hu := upd_len mark l i (by omega)
      simp only [laws_markActS.l0, Option.bind_some]
      rw [if_pos (by rw [hu]; omega), if_pos (by omega), show ((i : Int)).toNat = i from by omega]
      rw [w64 (x := 1 + 2 * (i : Int) + 1) (by omega) (by omega), w64 (x := 1 + 2 * (i : Int) + 1 + 1) (by omega) (by omega), w64 (x := (i : Int) + 1) (by omega) (by omega)]
      have e : ∀ q : S64, rd_T64 (((List.range i).map mark ++ l.drop i).set i q) i = q := fun q => by
        simp only [rd_T64]
        rw [show ((i : Int)).toNat = i from by omega]
        exact set_get _ _ _ _ (by rw [hu]; omega)
      rw [e]
      rw [List.set_set, show (⟨1 + 2 * (i : Int), 1 + 2 * (i : Int) + 1⟩ : S64) = mark i from rfl, upd mark l i hi]
      congr 1)
    (by
      intro k _
      simp only [laws_markActS.l0]
      rw [if_neg (by rw [upd_len _ _ _ (Nat.le_refl _)]; omega), upd_end]) k (by omega)
  simpa using h
theorem heldActS_is (n : Nat) (hl : n ≤ 1048576) (k : Nat) (hk : n < k) :
    laws_heldActS.f k ((List.range n).map mark) 1 = some (1 + 2 * (n : Int)) := by
  unfold laws_heldActS.f
  have h := loop_up (fun k (s : Int × Int) => laws_heldActS.l0 k ((List.range n).map mark) s.1 s.2) 0 n
    (fun i => (1 + 2 * (i : Int), (i : Int))) (1 + 2 * (n : Int))
    (by
      intro i k hi _
      simp only [laws_heldActS.l0]
      rw [if_pos (by simp; omega), if_pos (by omega)]
      have e : rd_T64 ((List.range n).map mark) i = mark i := by
        simp only [rd_T64]
        rw [show ((i : Int)).toNat = i from by omega]
        exact range_get _ _ _ _ hi
      rw [e, if_pos (show (mark i).f0 = 1 + 2 * (i : Int) from rfl)]
      rw [w64 (x := 1 + 2 * (i : Int) + 1) (by omega) (by omega), w64 (x := 1 + 2 * (i : Int) + 1 + 1) (by omega) (by omega), w64 (x := (i : Int) + 1) (by omega) (by omega), if_pos (show (mark i).f1 = 1 + 2 * (i : Int) + 1 from rfl)]
      congr 1)
    (by
      intro k _
      simp only [laws_heldActS.l0]
      rw [if_neg (by simp)]) k (by omega)
  simpa using h

theorem FnExactPlain : ∀ (l0 : List S66), (l0.length ≤ maxLen ∧ ∀ y ∈ l0, ok66 y) → ∃ k, laws_FnExactPlain.f k l0 = some true := by
  rintro l ⟨hm, _⟩
  unfold maxLen at hm
  by_cases hl : l.length ≤ 1048576
  · refine ⟨l.length + 2, ?_⟩
    have hml : (l.map conv).length = l.length := by simp
    have hfl : ((l.map conv).filter isRun).length ≤ l.length := Nat.le_trans (List.length_filter_le _ _) (by simp)
    unfold laws_FnExactPlain.f laws_szActS.f
    rw [w64 (by omega) (by omega), if_neg (by omega)]
    simp only [Option.bind_some]
    rw [if_neg (by omega), toActS_is l hl _ (by omega)]
    simp only [Option.bind_some]
    rw [spec_Plain_is _ (by omega) _ (by omega)]
    simp only [Option.bind_some]
    rw [impl_Plain_is _ (by omega) _ (by omega)]
    simp only [Option.bind_some]
    rw [eqActS_is _ (by omega) _ (by omega)]
    simp only [Option.bind_some, if_true]
    rw [eqActS_is _ (by omega) _ (by omega)]
    simp only [Option.bind_some, if_true]
    rw [markActS_is _ (by omega) _ (by omega)]
    simp only [Option.bind_some]
    rw [if_neg (by omega)]
    simp only [laws_FnExactPlain.j0, Bool.not_true, Bool.false_eq_true, if_false]
    rw [markActS_is _ (by omega) _ (by omega)]
    simp only [Option.bind_some]
    rw [heldActS_is _ (by omega) _ (by omega)]
    simp only [Option.bind_some]
    rw [if_neg (by omega), if_pos trivial, toActS_is l hl _ (by omega)]
    simp only [Option.bind_some]
    rw [impl_Plain_is _ (by omega) _ (by omega)]
    simp only [Option.bind_some]
    rw [eqActS_is _ (by omega) _ (by omega)]
    simp only [Option.bind_some, if_true]
    rw [if_neg (by omega)]
  · refine ⟨0, ?_⟩
    unfold laws_FnExactPlain.f laws_szActS.f
    rw [w64 (by omega) (by omega), if_pos (by omega)]
    simp
end Go.Proofs.Ytcbjdodehjpddaa.Pure
