/- Plain Protos: the program's and the reference's tests are one test; for the law FnExactStrip. -/
import Derived.Test.YtcbjdodehjpddaaPFnExactStripx
import Derived.Test.YtcbjdodehjpddaaPv
namespace Go.Proofs.Ytcbjdodehjpddaa.PpFnExactStrip
open Go.RowKit Go.Proofs.YtcbjdodehjpddaaW.PrintWords Go.Proofs.Ytcbjdodehjpddaa.PFnExactStrip Go.Proofs.Ytcbjdodehjpddaa.Pl Go.Proofs.Ytcbjdodehjpddaa.Pv

/-! ### plain codes -/
def leads (op : Int) : Bool := decide (18 ≤ op) && decide (op ≤ 21)
def okIns (n : Int) (x : S73) : Bool := !leads x.f0 || (decide (0 ≤ x.f1) && decide (x.f1 ≤ n - 1))
def plainB (c : List S73) : Bool := decide (1 ≤ c.length) && decide (c.length ≤ 4000) && decide ((c.getD (c.length - 1) z73).f0 = 24) && c.all (okIns c.length)

theorem rdn (c : List S73) (i : Nat) : rd_T73 c (i : Int) = c.getD i z73 := by simp [rd_T73]
theorem drop_all (c : List S73) (p : S73 → Bool) (i : Nat) (h : i < c.length) : (c.drop i).all p = (p (c.getD i z73) && (c.drop (i + 1)).all p) := by
  rw [List.drop_eq_getElem_cons h, List.all_cons, List.getD_eq_getElem?_getD, List.getElem?_eq_getElem h]
  rfl

theorem spec_plain_is (a b : Int) (u : List S101) (c : List S73) (hc : c.length ≤ 1048576) : Ev (fun k => spec_l18Plain.f k a b u c) (plainB c) := by
  unfold spec_l18Plain.f spec_l1In.f
  by_cases h1 : 1 ≤ c.length
  · rw [if_pos (by omega)]
    simp only [Option.bind_some]
    by_cases h2 : c.length ≤ 4000
    · refine ev_pos (by simp; omega) ?_
      rw [w64 (by omega) (by omega)]
      refine ev_pos (by omega) (ev_pos (by omega) ?_)
      rw [show rd_T73 c ((c.length : Int) - 1) = c.getD (c.length - 1) z73 from by simp only [rd_T73]; congr 1; omega]
      refine ev_step ?_
      simp only [spec_l18Plain.j0]
      by_cases h3 : (c.getD (c.length - 1) z73).f0 = 24
      · refine ev_neg (by rw [h3]; simp) ?_
        have h := ev_down (fun k (i : Nat) => spec_l18Plain.l0 k (c.length : Int) (i : Int) a b u c) c.length (fun i => (c.drop i).all (okIns c.length))
          (by
            intro i hi ih
            simp only [spec_l18Plain.l0, spec_l18Leads.f, spec_l1In.f]
            refine ev_pos (by omega) (ev_pos (by omega) (ev_pos (by omega) ?_))
            rw [w64 (x := (c.length : Int) - 1) (by omega) (by omega), w64 (x := (i : Int) + 1) (by omega) (by omega), rdn, drop_all c _ i hi]
            generalize c.getD i z73 = q
            by_cases g1 : q.f0 ≥ 18
            · rw [if_pos g1]
              simp only [Option.bind_some]
              by_cases g2 : q.f0 ≤ 21
              · refine ev_pos (by simp [g2]) ?_
                by_cases g3 : q.f1 ≥ 0
                · rw [if_pos g3]
                  simp only [Option.bind_some]
                  by_cases g4 : q.f1 ≤ c.length - 1
                  · refine ev_pos (by simp [g4]) ?_
                    rw [show okIns c.length q = true from by simp [okIns, leads]; omega, Bool.true_and]
                    exact ih
                  · refine ev_neg (by simp [g4]) ?_
                    rw [show okIns c.length q = false from by simp [okIns, leads]; omega, Bool.false_and]
                    exact ev_some _
                · rw [if_neg g3]
                  simp only [Option.bind_some]
                  refine ev_neg (by simp) ?_
                  rw [show okIns c.length q = false from by simp [okIns, leads]; omega, Bool.false_and]
                  exact ev_some _
              · refine ev_neg (by simp [g2]) ?_
                rw [show okIns c.length q = true from by simp [okIns, leads]; omega, Bool.true_and]
                exact ih
            · rw [if_neg g1]
              simp only [Option.bind_some]
              refine ev_neg (by simp) ?_
              rw [show okIns c.length q = true from by simp [okIns, leads]; omega, Bool.true_and]
              exact ih)
          (by
            simp only [spec_l18Plain.l0]
            refine ev_neg (by omega) ?_
            rw [List.drop_length]
            exact ev_some _) 0 (by omega)
        have e : plainB c = c.all (okIns c.length) := by
          unfold plainB
          rw [h3]
          simp [h1, h2]
        rw [e]
        simpa using h
      · refine ev_pos (by simpa using h3) ?_
        rw [show plainB c = false from by unfold plainB; rw [decide_eq_false h3]; simp]
        exact ev_some _
    · refine ev_neg (by simp; omega) ?_
      refine ev_step ?_
      simp only [spec_l18Plain.j0, if_true]
      rw [show plainB c = false from by unfold plainB; rw [decide_eq_false h2]; simp]
      exact ev_some _
  · rw [if_neg (by omega)]
    simp only [Option.bind_some]
    refine ev_neg (by simp) ?_
    refine ev_step ?_
    simp only [spec_l18Plain.j0, if_true]
    rw [show plainB c = false from by unfold plainB; rw [decide_eq_false h1]; simp]
    exact ev_some _

theorem impl_plain_is (a b : Int) (u : List S101) (c : List S73) (hc : c.length ≤ 1048576) : Ev (fun k => impl_isPlainProto.f k a b u c) (plainB c) := by
  unfold impl_isPlainProto.f impl_within.f
  by_cases h1 : 1 ≤ c.length
  · rw [if_pos (by omega)]
    simp only [Option.bind_some]
    by_cases h2 : c.length ≤ 4000
    · refine ev_pos (by simp; omega) ?_
      rw [w64 (by omega) (by omega)]
      refine ev_pos (by omega) (ev_pos (by omega) ?_)
      rw [show rd_T73 c ((c.length : Int) - 1) = c.getD (c.length - 1) z73 from by simp only [rd_T73]; congr 1; omega]
      refine ev_step ?_
      simp only [impl_isPlainProto.j0]
      by_cases h3 : (c.getD (c.length - 1) z73).f0 = 24
      · refine ev_neg (by rw [h3]; simp) ?_
        have h := ev_down (fun k (i : Nat) => impl_isPlainProto.l0 k (c.length : Int) c (c.length : Int) (i : Int)) c.length (fun i => (c.drop i).all (okIns c.length))
          (by
            intro i hi ih
            simp only [impl_isPlainProto.l0, impl_isJump.f, impl_within.f]
            refine ev_pos (by omega) (ev_pos (by omega) (ev_pos (by omega) ?_))
            rw [w64 (x := (c.length : Int) - 1) (by omega) (by omega), w64 (x := (i : Int) + 1) (by omega) (by omega), rdn, drop_all c _ i hi]
            generalize c.getD i z73 = q
            by_cases g1 : q.f0 ≥ 18
            · rw [if_pos g1]
              simp only [Option.bind_some]
              by_cases g2 : q.f0 ≤ 21
              · refine ev_pos (by simp [g2]) ?_
                by_cases g3 : q.f1 ≥ 0
                · rw [if_pos g3]
                  simp only [Option.bind_some]
                  by_cases g4 : q.f1 ≤ c.length - 1
                  · refine ev_pos (by simp [g4]) ?_
                    rw [show okIns c.length q = true from by simp [okIns, leads]; omega, Bool.true_and]
                    exact ih
                  · refine ev_neg (by simp [g4]) ?_
                    rw [show okIns c.length q = false from by simp [okIns, leads]; omega, Bool.false_and]
                    exact ev_some _
                · rw [if_neg g3]
                  simp only [Option.bind_some]
                  refine ev_neg (by simp) ?_
                  rw [show okIns c.length q = false from by simp [okIns, leads]; omega, Bool.false_and]
                  exact ev_some _
              · refine ev_neg (by simp [g2]) ?_
                rw [show okIns c.length q = true from by simp [okIns, leads]; omega, Bool.true_and]
                exact ih
            · rw [if_neg g1]
              simp only [Option.bind_some]
              refine ev_neg (by simp) ?_
              rw [show okIns c.length q = true from by simp [okIns, leads]; omega, Bool.true_and]
              exact ih)
          (by
            simp only [impl_isPlainProto.l0]
            refine ev_neg (by omega) ?_
            rw [List.drop_length]
            exact ev_some _) 0 (by omega)
        have e : plainB c = c.all (okIns c.length) := by
          unfold plainB
          rw [h3]
          simp [h1, h2]
        rw [e]
        simpa using h
      · refine ev_pos (by simpa using h3) ?_
        rw [show plainB c = false from by unfold plainB; rw [decide_eq_false h3]; simp]
        exact ev_some _
    · refine ev_neg (by simp; omega) ?_
      refine ev_step ?_
      simp only [impl_isPlainProto.j0, if_true]
      rw [show plainB c = false from by unfold plainB; rw [decide_eq_false h2]; simp]
      exact ev_some _
  · rw [if_neg (by omega)]
    simp only [Option.bind_some]
    refine ev_neg (by simp) ?_
    refine ev_step ?_
    simp only [impl_isPlainProto.j0, if_true]
    rw [show plainB c = false from by unfold plainB; rw [decide_eq_false h1]; simp]
    exact ev_some _

theorem plain_mem {c : List S73} (h : plainB c = true) : 1 ≤ c.length ∧ c.length ≤ 4000 ∧ (c.getD (c.length - 1) z73).f0 = 24 ∧ ∀ i, i < c.length → leads (c.getD i z73).f0 = true → 0 ≤ (c.getD i z73).f1 ∧ (c.getD i z73).f1 ≤ c.length - 1 := by
  unfold plainB at h
  simp only [Bool.and_eq_true, decide_eq_true_eq, List.all_eq_true] at h
  obtain ⟨⟨⟨h1, h2⟩, h3⟩, h4⟩ := h
  refine ⟨h1, h2, h3, fun i hi hl => ?_⟩
  have h5 := h4 (c.getD i z73) (by rw [List.getD_eq_getElem?_getD, List.getElem?_eq_getElem hi]; exact List.getElem_mem hi)
  unfold okIns at h5
  rw [hl] at h5
  simpa using h5
end Go.Proofs.Ytcbjdodehjpddaa.PpFnExactStrip
