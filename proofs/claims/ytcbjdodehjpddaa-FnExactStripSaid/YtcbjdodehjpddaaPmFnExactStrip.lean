/- The law's helpers over Protos (copies, comparisons, marks and looks) as list functions; for the law FnExactStrip. -/
import Derived.Test.YtcbjdodehjpddaaPFnExactStripx
import Derived.Test.YtcbjdodehjpddaaPv
namespace Go.Proofs.Ytcbjdodehjpddaa.PmFnExactStrip
open Go.RowKit Go.Proofs.YtcbjdodehjpddaaW.PrintWords Go.Proofs.Ytcbjdodehjpddaa.PFnExactStrip Go.Proofs.Ytcbjdodehjpddaa.Pl Go.Proofs.Ytcbjdodehjpddaa.Pv

def upC (x : S103) : S101 := ⟨x.f0, x.f1⟩
def insC (x : S105) : S73 := ⟨x.f0, x.f1⟩

theorem toUpS_is (l : List S103) (hl : l.length ≤ 1048576) : Ev (fun k => laws_toUpS.f k l) (l.map upC) := by
  unfold laws_toUpS.f
  refine ev_pos (by omega) (ev_pos (by omega) ?_)
  have h := ev_loop (fun k (s : List S101 × Int) => laws_toUpS.l0 k l s.1 s.2) l.length
    (fun i => ((List.range i).map (fun i => upC (l.getD i z103)) ++ (List.replicate l.length z101).drop i, (i : Int))) (l.map upC)
    (by
      intro i hi ih
      have hu := upd_len (fun i => upC (l.getD i z103)) (List.replicate l.length z101) i (by simp; omega)
      simp only [List.length_replicate] at hu
      simp only [laws_toUpS.l0, laws_toUp.f, Option.bind_some]
      refine ev_pos (by omega) (ev_pos (by omega) (ev_pos (by rw [hu]; omega) ?_))
      rw [w64 (by omega) (by omega)]
      rw [show ((i : Int)).toNat = i from by omega]
      rw [show (⟨(rd_T103 l i).f0, (rd_T103 l i).f1⟩ : S101) = (fun i => upC (l.getD i z103)) i from by simp [rd_T103, upC]]
      rw [upd _ _ i (by simp; omega)]
      exact ih)
    (by
      simp only [laws_toUpS.l0]
      refine ev_neg (by omega) ?_
      have := upd_end (fun i => upC (l.getD i z103)) (List.replicate l.length z101)
      simp only [List.length_replicate] at this
      rw [this, map_range]
      exact ev_some _)
  simpa using h
theorem toInsS_is (l : List S105) (hl : l.length ≤ 1048576) : Ev (fun k => laws_toInsS.f k l) (l.map insC) := by
  unfold laws_toInsS.f
  refine ev_pos (by omega) (ev_pos (by omega) ?_)
  have h := ev_loop (fun k (s : List S73 × Int) => laws_toInsS.l0 k l s.1 s.2) l.length
    (fun i => ((List.range i).map (fun i => insC (l.getD i z105)) ++ (List.replicate l.length z73).drop i, (i : Int))) (l.map insC)
    (by
      intro i hi ih
      have hu := upd_len (fun i => insC (l.getD i z105)) (List.replicate l.length z73) i (by simp; omega)
      simp only [List.length_replicate] at hu
      simp only [laws_toInsS.l0, laws_toIns.f, Option.bind_some]
      refine ev_pos (by omega) (ev_pos (by omega) (ev_pos (by rw [hu]; omega) ?_))
      rw [w64 (by omega) (by omega)]
      rw [show ((i : Int)).toNat = i from by omega]
      rw [show (⟨(rd_T105 l i).f0, (rd_T105 l i).f1⟩ : S73) = (fun i => insC (l.getD i z105)) i from by simp [rd_T105, insC]]
      rw [upd _ _ i (by simp; omega)]
      exact ih)
    (by
      simp only [laws_toInsS.l0]
      refine ev_neg (by omega) ?_
      have := upd_end (fun i => insC (l.getD i z105)) (List.replicate l.length z73)
      simp only [List.length_replicate] at this
      rw [this, map_range]
      exact ev_some _)
  simpa using h
theorem toProto_is (a b : Int) (u : List S103) (c : List S105) (hu : u.length ≤ 1048576) (hc : c.length ≤ 1048576) : Ev (fun k => laws_toProto.f k a b u c) (a, b, u.map upC, c.map insC) := by
  unfold laws_toProto.f
  exact ev_bind (toUpS_is u hu) (ev_bind (toInsS_is c hc) (ev_some _))

theorem eqUpS_is (l : List S101) (hl : l.length ≤ 1048576) : Ev (fun k => laws_eqUpS.f k l l) true := by
  unfold laws_eqUpS.f
  refine ev_pos rfl ?_
  have h := ev_loop (fun k (s : Int) => laws_eqUpS.l0 k l l s) l.length (fun i => (i : Int)) true
    (by
      intro i hi ih
      simp only [laws_eqUpS.l0, laws_eqUp.f]
      refine ev_pos (by omega) (ev_pos (by omega) (ev_pos (by omega) ?_))
      rw [w64 (by omega) (by omega)]
      simpa using ih)
    (by
      simp only [laws_eqUpS.l0]
      exact ev_neg (by omega) (ev_some _))
  simpa using h
theorem eqInsS_is (l : List S73) (hl : l.length ≤ 1048576) : Ev (fun k => laws_eqInsS.f k l l) true := by
  unfold laws_eqInsS.f
  refine ev_pos rfl ?_
  have h := ev_loop (fun k (s : Int) => laws_eqInsS.l0 k l l s) l.length (fun i => (i : Int)) true
    (by
      intro i hi ih
      simp only [laws_eqInsS.l0, laws_eqIns.f]
      refine ev_pos (by omega) (ev_pos (by omega) (ev_pos (by omega) ?_))
      rw [w64 (by omega) (by omega)]
      simpa using ih)
    (by
      simp only [laws_eqInsS.l0]
      exact ev_neg (by omega) (ev_some _))
  simpa using h
theorem eqProto_is (a b : Int) (u : List S101) (c : List S73) (hu : u.length ≤ 1048576) (hc : c.length ≤ 1048576) : Ev (fun k => laws_eqProto.f k a b u c a b u c) true := by
  unfold laws_eqProto.f
  exact ev_pos rfl (ev_pos rfl (ev_bind (eqUpS_is u hu) (ev_pos rfl (ev_bind (eqInsS_is c hc) (ev_pos rfl (ev_some _))))))

/-- The marks, from the number s on. -/
def upM (s : Int) (i : Nat) : S101 := ⟨Int.tmod (s + 2 * i) 3 == 0, s + 2 * i + 1⟩
def insM (s : Int) (i : Nat) : S73 := ⟨s + 2 * i, s + 2 * i + 1⟩
theorem markUpS_is (l : List S101) (s : Int) (h0 : 0 ≤ s) (h1 : s ≤ 100000000) (hl : l.length ≤ 1048576) :
    Ev (fun k => laws_markUpS.f k l s) (s + 2 * (l.length : Int), (List.range l.length).map (upM s)) := by
  unfold laws_markUpS.f
  have h := ev_loop (fun k (q : List S101 × Int × Int) => laws_markUpS.l0 k q.1 q.2.1 q.2.2) l.length
    (fun i => ((List.range i).map (upM s) ++ l.drop i, s + 2 * (i : Int), (i : Int))) (s + 2 * (l.length : Int), (List.range l.length).map (upM s))
    (by
      intro i hi ih
      have hu := upd_len (upM s) l i (by omega)
      simp only [laws_markUpS.l0, Option.bind_some]
      refine ev_pos (by rw [hu]; omega) (ev_pos (by omega) ?_)
      rw [show ((i : Int)).toNat = i from by omega]
      rw [w64 (x := s + 2 * (i : Int) + 1) (by omega) (by omega), w64 (x := s + 2 * (i : Int) + 1 + 1) (by omega) (by omega), w64 (x := (i : Int) + 1) (by omega) (by omega)]
      have e : ∀ q : S101, rd_T101 (((List.range i).map (upM s) ++ l.drop i).set i q) i = q := fun q => by
        simp only [rd_T101]
        rw [show ((i : Int)).toNat = i from by omega]
        exact set_get _ _ _ _ (by rw [hu]; omega)
      rw [e]
      rw [List.set_set, show (⟨Int.tmod (s + 2 * (i : Int)) 3 == 0, s + 2 * (i : Int) + 1⟩ : S101) = upM s i from rfl, upd (upM s) l i hi]
      rw [show s + 2 * (i : Int) + 1 + 1 = s + 2 * ((i + 1 : Nat) : Int) from by omega]
      exact ih)
    (by
      simp only [laws_markUpS.l0]
      refine ev_neg (by rw [upd_len _ _ _ (Nat.le_refl _)]; omega) ?_
      rw [upd_end]
      exact ev_some _)
  simpa using h
theorem markInsS_is (l : List S73) (s : Int) (h0 : 0 ≤ s) (h1 : s ≤ 100000000) (hl : l.length ≤ 1048576) :
    Ev (fun k => laws_markInsS.f k l s) (s + 2 * (l.length : Int), (List.range l.length).map (insM s)) := by
  unfold laws_markInsS.f
  have h := ev_loop (fun k (q : List S73 × Int × Int) => laws_markInsS.l0 k q.1 q.2.1 q.2.2) l.length
    (fun i => ((List.range i).map (insM s) ++ l.drop i, s + 2 * (i : Int), (i : Int))) (s + 2 * (l.length : Int), (List.range l.length).map (insM s))
    (by
      intro i hi ih
      have hu := upd_len (insM s) l i (by omega)
      simp only [laws_markInsS.l0, Option.bind_some]
      refine ev_pos (by rw [hu]; omega) (ev_pos (by omega) ?_)
      rw [show ((i : Int)).toNat = i from by omega]
      rw [w64 (x := s + 2 * (i : Int) + 1) (by omega) (by omega), w64 (x := s + 2 * (i : Int) + 1 + 1) (by omega) (by omega), w64 (x := (i : Int) + 1) (by omega) (by omega)]
      have e : ∀ q : S73, rd_T73 (((List.range i).map (insM s) ++ l.drop i).set i q) i = q := fun q => by
        simp only [rd_T73]
        rw [show ((i : Int)).toNat = i from by omega]
        exact set_get _ _ _ _ (by rw [hu]; omega)
      rw [e]
      rw [List.set_set, show (⟨s + 2 * (i : Int), s + 2 * (i : Int) + 1⟩ : S73) = insM s i from rfl, upd (insM s) l i hi]
      rw [show s + 2 * (i : Int) + 1 + 1 = s + 2 * ((i + 1 : Nat) : Int) from by omega]
      exact ih)
    (by
      simp only [laws_markInsS.l0]
      refine ev_neg (by rw [upd_len _ _ _ (Nat.le_refl _)]; omega) ?_
      rw [upd_end]
      exact ev_some _)
  simpa using h
theorem markProto_is (a b : Int) (u : List S101) (c : List S73) (s : Int) (h0 : 0 ≤ s) (h1 : s ≤ 50000000) (hu : u.length ≤ 1048576) (hc : c.length ≤ 1048576) :
    Ev (fun k => laws_markProto.f k a b u c s) (s + 2 * (u.length : Int) + 2 * (c.length : Int), (List.range u.length).map (upM s), (List.range c.length).map (insM (s + 2 * (u.length : Int)))) := by
  unfold laws_markProto.f
  exact ev_bind (markUpS_is u s h0 (by omega) hu) (ev_bind (markInsS_is c _ (by omega) (by omega) hc) (ev_some _))
theorem heldUpS_is (n : Nat) (s : Int) (h0 : 0 ≤ s) (h1 : s ≤ 100000000) (hl : n ≤ 1048576) :
    Ev (fun k => laws_heldUpS.f k ((List.range n).map (upM s)) s) (s + 2 * (n : Int)) := by
  unfold laws_heldUpS.f
  have h := ev_loop (fun k (q : Int × Int) => laws_heldUpS.l0 k ((List.range n).map (upM s)) q.1 q.2) n
    (fun i => (s + 2 * (i : Int), (i : Int))) (s + 2 * (n : Int))
    (by
      intro i hi ih
      simp only [laws_heldUpS.l0]
      refine ev_pos (by simp; omega) (ev_pos (by omega) ?_)
      have e : rd_T101 ((List.range n).map (upM s)) i = upM s i := by
        simp only [rd_T101]
        rw [show ((i : Int)).toNat = i from by omega]
        exact range_get _ _ _ _ hi
      rw [e]
      rw [w64 (x := s + 2 * (i : Int) + 1) (by omega) (by omega), w64 (x := s + 2 * (i : Int) + 1 + 1) (by omega) (by omega), w64 (x := (i : Int) + 1) (by omega) (by omega)]
      refine ev_neg (by simp [upM]) (ev_pos rfl ?_)
      rw [show s + 2 * (i : Int) + 1 + 1 = s + 2 * ((i + 1 : Nat) : Int) from by omega]
      exact ih)
    (by
      simp only [laws_heldUpS.l0]
      exact ev_neg (by simp) (ev_some _))
  simpa using h
theorem heldInsS_is (n : Nat) (s : Int) (h0 : 0 ≤ s) (h1 : s ≤ 100000000) (hl : n ≤ 1048576) :
    Ev (fun k => laws_heldInsS.f k ((List.range n).map (insM s)) s) (s + 2 * (n : Int)) := by
  unfold laws_heldInsS.f
  have h := ev_loop (fun k (q : Int × Int) => laws_heldInsS.l0 k ((List.range n).map (insM s)) q.1 q.2) n
    (fun i => (s + 2 * (i : Int), (i : Int))) (s + 2 * (n : Int))
    (by
      intro i hi ih
      simp only [laws_heldInsS.l0]
      refine ev_pos (by simp; omega) (ev_pos (by omega) ?_)
      have e : rd_T73 ((List.range n).map (insM s)) i = insM s i := by
        simp only [rd_T73]
        rw [show ((i : Int)).toNat = i from by omega]
        exact range_get _ _ _ _ hi
      rw [e]
      rw [w64 (x := s + 2 * (i : Int) + 1) (by omega) (by omega), w64 (x := s + 2 * (i : Int) + 1 + 1) (by omega) (by omega), w64 (x := (i : Int) + 1) (by omega) (by omega)]
      refine ev_pos rfl (ev_pos rfl ?_)
      rw [show s + 2 * (i : Int) + 1 + 1 = s + 2 * ((i + 1 : Nat) : Int) from by omega]
      exact ih)
    (by
      simp only [laws_heldInsS.l0]
      exact ev_neg (by simp) (ev_some _))
  simpa using h
theorem heldProto_is (a b : Int) (n m : Nat) (s : Int) (h0 : 0 ≤ s) (h1 : s ≤ 50000000) (hn : n ≤ 1048576) (hm : m ≤ 1048576) :
    Ev (fun k => laws_heldProto.f k a b ((List.range n).map (upM s)) ((List.range m).map (insM (s + 2 * (n : Int)))) s) (s + 2 * (n : Int) + 2 * (m : Int)) := by
  unfold laws_heldProto.f
  exact ev_bind (heldUpS_is n s h0 (by omega) hn) (ev_neg (by omega) (ev_bind (heldInsS_is m _ (by omega) (by omega) hm) (ev_neg (by omega) (ev_some _))))
theorem szProto_is (a b : Int) (u : List S103) (c : List S105) (hu : u.length ≤ 9223372036854775807) (hc : c.length ≤ 9223372036854775807) :
    (∃ t, laws_szProto.f a b u c 1048576 = some t ∧ 0 ≤ t ∧ u.length ≤ 1048576 ∧ c.length ≤ 1048576) ∨ laws_szProto.f a b u c 1048576 = some (-1) := by
  unfold laws_szProto.f laws_szUpS.f
  rw [w64 (by omega) (by omega)]
  by_cases h1 : u.length ≤ 1048576
  · rw [if_neg (by omega)]
    simp only [Option.bind_some]
    rw [if_neg (by omega)]
    unfold laws_szInsS.f
    rw [w64 (by omega) (by omega)]
    by_cases h2 : (c.length : Int) ≤ 1048576 - u.length
    · rw [if_neg (by omega)]
      simp only [Option.bind_some]
      rw [if_neg (by omega)]
      exact .inl ⟨_, rfl, by omega, by omega, by omega⟩
    · rw [if_pos (by omega)]
      exact .inr rfl
  · rw [if_pos (by omega)]
    exact .inr rfl
end Go.Proofs.Ytcbjdodehjpddaa.PmFnExactStrip
