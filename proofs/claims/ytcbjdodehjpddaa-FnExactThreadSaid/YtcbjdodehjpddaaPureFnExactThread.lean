/- The pure statement of FnExactThread: the program's Thread follows jumps at most one step further than the reference's, and both come to the same code; the law's copies, marks and looks answer true. -/
import Derived.Test.YtcbjdodehjpddaaPmFnExactThread
import Derived.Test.YtcbjdodehjpddaaPpFnExactThread
import Derived.Test.YtcbjdodehjpddaaOpFnExactThread
namespace Go.Proofs.Ytcbjdodehjpddaa.Pure
open Go.RowKit Go.Proofs.YtcbjdodehjpddaaW.PrintWords Go.Proofs.Ytcbjdodehjpddaa.PFnExactThread Go.Proofs.Ytcbjdodehjpddaa.OpFnExactThread Go.Proofs.Ytcbjdodehjpddaa.Pl Go.Proofs.Ytcbjdodehjpddaa.Pv Go.Proofs.Ytcbjdodehjpddaa.PmFnExactThread Go.Proofs.Ytcbjdodehjpddaa.PpFnExactThread

/-- Going on from a place as long as a jump stands there, at most m times. -/
def chase (c : List S73) : Nat → Int → Int
  | 0, p => p
  | m + 1, p => if (rd_T73 c p).f0 = 18 then chase c m (rd_T73 c p).f1 else p
theorem chase_stop (c : List S73) (m : Nat) (p : Int) (h : (rd_T73 c p).f0 ≠ 18) : chase c m p = p := by
  cases m with
  | zero => rfl
  | succ m => simp only [chase]; rw [if_neg h]
theorem chase_go (c : List S73) (m : Nat) (p : Int) (h : (rd_T73 c p).f0 = 18) : chase c (m + 1) p = chase c m (rd_T73 c p).f1 := by
  simp only [chase]; rw [if_pos h]
/-- One step more is a step behind. -/
theorem chase_succ (c : List S73) (m : Nat) : ∀ p, chase c (m + 1) p = chase c 1 (chase c m p) := by
  induction m with
  | zero => intro p; rfl
  | succ m ih =>
    intro p
    by_cases h : (rd_T73 c p).f0 = 18
    · rw [chase_go c _ p h, chase_go c _ p h]; exact ih _
    · rw [chase_stop c _ p h, chase_stop c _ p h, chase_stop c _ p h]

/-- In a plain code a way of jumps that does not end within its length never ends. -/
theorem chase_more {c : List S73} (hp : plainB c = true) {p : Int} (h0 : 0 ≤ p) (h1 : p < c.length) (hj : (rd_T73 c (chase c c.length p)).f0 = 18) : (rd_T73 c (chase c (c.length + 1) p)).f0 = 18 := by
  obtain ⟨_, _, hlast, hm⟩ := plain_mem hp
  have rng : ∀ m, 0 ≤ chase c m p ∧ chase c m p < c.length := by
    intro m
    induction m with
    | zero => exact ⟨h0, h1⟩
    | succ m ih =>
      rw [chase_succ]
      obtain ⟨i, hi⟩ := Int.eq_ofNat_of_zero_le ih.1
      by_cases h : (rd_T73 c (chase c m p)).f0 = 18
      · rw [chase_go c 0 _ h]
        have h2 := hm i (by omega) (by rw [hi, rdn] at h; rw [h]; rfl)
        rw [hi, rdn]
        simp only [chase]
        omega
      · rw [chase_stop c 1 _ h]
        exact ih
  have jmp : ∀ m, m ≤ c.length → (rd_T73 c (chase c m p)).f0 = 18 := by
    intro m hmn
    by_cases h : (rd_T73 c (chase c m p)).f0 = 18
    · exact h
    · have key : ∀ d, chase c (m + d) p = chase c m p := by
        intro d
        induction d with
        | zero => rfl
        | succ d ih => rw [← Nat.add_assoc, chase_succ, ih]; exact chase_stop c 1 _ h
      have h2 := key (c.length - m)
      rw [show m + (c.length - m) = c.length from by omega] at h2
      rw [h2] at hj
      exact absurd hj h
  -- two of the places that are come to are one
  have hdup : ∃ i j, i < j ∧ j ≤ c.length ∧ chase c i p = chase c j p := by
    apply Classical.byContradiction
    intro hno
    have hl := nodup_le c.length ((List.range (c.length + 1)).map fun m => (chase c m p).toNat) (by
      rw [List.Nodup, List.pairwise_map]
      refine List.Pairwise.imp_of_mem ?_ (List.pairwise_lt_range (n := c.length + 1))
      intro i j _ hjl hij e
      rw [List.mem_range] at hjl
      refine hno ⟨i, j, hij, by omega, ?_⟩
      have ri := rng i
      have rj := rng j
      omega) (fun x hx => by
        obtain ⟨m, _, rfl⟩ := List.mem_map.1 hx
        have := rng m
        omega)
    simp at hl
    omega
  obtain ⟨i, j, hij, hjn, he⟩ := hdup
  have per : ∀ d, chase c (i + d) p = chase c (j + d) p := by
    intro d
    induction d with
    | zero => exact he
    | succ d ih => rw [← Nat.add_assoc, ← Nat.add_assoc, chase_succ, chase_succ c (j + d), ih]
  have h2 := per (c.length + 1 - j)
  rw [show j + (c.length + 1 - j) = c.length + 1 from by omega] at h2
  rw [← h2]
  exact jmp _ (by omega)

/-- What an instruction becomes when jumps are followed at most m times. -/
def thr (c : List S73) (m : Nat) (i : Nat) : S73 :=
  if leads (c.getD i z73).f0 = true then
    if (rd_T73 c (chase c m (c.getD i z73).f1)).f0 = 18 then c.getD i z73 else ⟨(c.getD i z73).f0, chase c m (c.getD i z73).f1⟩
  else c.getD i z73
theorem thr_same {c : List S73} (hp : plainB c = true) (i : Nat) (hi : i < c.length) : thr c (c.length + 1) i = thr c c.length i := by
  obtain ⟨_, _, _, hm⟩ := plain_mem hp
  unfold thr
  by_cases hl : leads (c.getD i z73).f0 = true
  · rw [if_pos hl, if_pos hl]
    have h2 := hm i hi hl
    by_cases hj : (rd_T73 c (chase c c.length (c.getD i z73).f1)).f0 = 18
    · rw [if_pos hj, if_pos (chase_more hp h2.1 (by omega) hj)]
    · rw [if_neg hj, chase_succ, chase_stop c 1 _ hj, if_neg hj]
  · rw [if_neg hl, if_neg hl]

theorem leads_spec (op : Int) : spec_l18Leads.f op = some (leads op) := by
  unfold spec_l18Leads.f leads
  by_cases h : op ≥ 18
  · rw [if_pos h, decide_eq_true (show 18 ≤ op from h)]; simp
  · rw [if_neg h, decide_eq_false (show ¬ 18 ≤ op from h)]; simp
theorem leads_impl (op : Int) : impl_isJump.f op = some (leads op) := by
  unfold impl_isJump.f impl_within.f leads
  by_cases h : op ≥ 18
  · rw [if_pos h, decide_eq_true (show 18 ≤ op from h)]; simp
  · rw [if_neg h, decide_eq_false (show ¬ 18 ≤ op from h)]; simp

section
variable (a b : Int) (u : List S101) (c : List S73)
/-- The code behind i instructions. -/
def outs (m : Nat) (i : Nat) : List S73 := (List.range i).map (thr c m) ++ c.drop i

theorem spec_loop (hp : plainB c = true) (a' b' : Int) (u' : List S101) :
    Ev (fun k => spec_Thread.l0 k 0 a b u c a' b' u' c) (a', b', u', (List.range c.length).map (thr c c.length)) := by
  obtain ⟨h1, h2, hlast, hm⟩ := plain_mem hp
  have h := ev_loop (fun k (q : Int × List S73) => spec_Thread.l0 k q.1 a b u c a' b' u' q.2) c.length (fun i => ((i : Int), outs c c.length i)) (a', b', u', (List.range c.length).map (thr c c.length))
    (by
      intro i hi ih
      have hlen : (outs c c.length i).length = c.length := upd_len _ _ _ (by omega)
      have hget : rd_T73 (outs c c.length i) (i : Int) = c.getD i z73 := by rw [rdn]; exact upd_get _ _ _ _
      simp only [spec_Thread.l0]
      refine ev_pos (by omega) (ev_pos (by omega) ?_)
      rw [rdn, leads_spec, w64 (by omega) (by omega)]
      simp only [Option.bind_some]
      by_cases hl : leads (c.getD i z73).f0 = true
      · refine ev_pos hl ?_
        have hr := hm i hi hl
        -- the inner loop
        have inner : ∀ d (j : Nat) (p : Int), j + d = c.length → 0 ≤ p → p < c.length → chase c d p = chase c c.length (c.getD i z73).f1 →
            Ev (fun k => spec_Thread.l1 k (i : Int) p (j : Int) a b u c a' b' u' (outs c c.length i)) (a', b', u', (List.range c.length).map (thr c c.length)) := by
          have fin : ∀ p : Int, 0 ≤ p → p < c.length → p = chase c c.length (c.getD i z73).f1 → (rd_T73 c p).f0 ≠ 18 →
              Ev (fun k => spec_Thread.l0 k ((i : Int) + 1) a b u c a' b' u' ((outs c c.length i).set ((i : Int) : Int).toNat (⟨(rd_T73 (outs c c.length i) (i : Int)).f0, p⟩ : S73))) (a', b', u', (List.range c.length).map (thr c c.length)) := by
            intro p hp0 hp1 he hne
            have e : (⟨(rd_T73 (outs c c.length i) (i : Int)).f0, p⟩ : S73) = thr c c.length i := by
              unfold thr
              rw [if_pos hl, ← he, if_neg hne, hget]
            rw [e, show ((i : Int)).toNat = i from by omega]
            unfold outs
            rw [upd _ _ i hi]
            exact ih
          intro d
          induction d with
          | zero =>
            intro j p hj hp0 hp1 he
            have he : p = chase c c.length (c.getD i z73).f1 := he
            refine ev_step ?_
            simp only [spec_Thread.l1]
            refine ev_neg (by omega) (ev_pos hp0 (ev_pos hp1 ?_))
            by_cases hq : (rd_T73 c p).f0 = 18
            · refine ev_pos hq ?_
              rw [w64 (by omega) (by omega)]
              have e : thr c c.length i = c.getD i z73 := by
                unfold thr
                rw [if_pos hl, ← he, if_pos hq]
              have := upd_same (thr c c.length) c i z73 hi e
              unfold outs
              rw [this]
              exact ih
            · refine ev_neg hq (ev_pos (by omega) (ev_pos (by omega) ?_))
              rw [w64 (by omega) (by omega)]
              exact fin p hp0 hp1 he hq
          | succ d ihd =>
            intro j p hj hp0 hp1 he
            refine ev_step ?_
            simp only [spec_Thread.l1]
            refine ev_pos (by omega) (ev_pos hp0 (ev_pos hp1 ?_))
            obtain ⟨q, rfl⟩ := Int.eq_ofNat_of_zero_le hp0
            by_cases hq : (rd_T73 c (q : Int)).f0 = 18
            · refine ev_pos hq ?_
              rw [chase_go c d _ hq] at he
              have hqr := hm q (by omega) (by rw [rdn] at hq; rw [hq]; rfl)
              rw [w64 (x := (j : Int) + 1) (by omega) (by omega)]
              rw [← rdn] at hqr
              exact ihd (j + 1) _ (by omega) hqr.1 (by omega) he
            · refine ev_neg hq (ev_pos (by omega) (ev_pos (by omega) ?_))
              rw [chase_stop c _ _ hq] at he
              rw [w64 (by omega) (by omega)]
              exact fin _ hp0 hp1 he hq
        exact inner c.length 0 _ (by omega) hr.1 (by omega) rfl
      · refine ev_neg hl ?_
        have e : thr c c.length i = c.getD i z73 := by unfold thr; rw [if_neg hl]
        have := upd_same (thr c c.length) c i z73 hi e
        unfold outs
        rw [this]
        exact ih)
    (by
      simp only [spec_Thread.l0]
      refine ev_neg (by omega) ?_
      unfold outs
      rw [upd_end]
      exact ev_some _)
  simpa [outs] using h

theorem impl_loop (hp : plainB c = true) (a' b' : Int) (u' : List S101) :
    Ev (fun k => impl_Thread.l0 k c (c.length : Int) 0 a b u c a' b' u' c) (a', b', u', (List.range c.length).map (thr c (c.length + 1))) := by
  obtain ⟨h1, h2, hlast, hm⟩ := plain_mem hp
  have h := ev_loop (fun k (q : Int × List S73) => impl_Thread.l0 k c (c.length : Int) q.1 a b u c a' b' u' q.2) c.length (fun i => ((i : Int), outs c (c.length + 1) i)) (a', b', u', (List.range c.length).map (thr c (c.length + 1)))
    (by
      intro i hi ih
      have hlen : (outs c (c.length + 1) i).length = c.length := upd_len _ _ _ (by omega)
      have hget : rd_T73 (outs c (c.length + 1) i) (i : Int) = c.getD i z73 := by rw [rdn]; exact upd_get _ _ _ _
      simp only [impl_Thread.l0]
      refine ev_pos (by omega) (ev_pos (by omega) (ev_pos (by omega) ?_))
      rw [rdn, leads_impl, w64 (by omega) (by omega)]
      simp only [Option.bind_some]
      by_cases hl : leads (c.getD i z73).f0 = true
      · refine ev_pos hl ?_
        have hr := hm i hi hl
        have inner : ∀ d (j : Nat) (p : Int), j + d = c.length + 1 → 0 ≤ p → p < c.length → chase c d p = chase c (c.length + 1) (c.getD i z73).f1 →
            Ev (fun k => impl_Thread.l1 k (i : Int) p (j : Int) c (c.length : Int) (i : Int) a b u c a' b' u' (outs c (c.length + 1) i)) (a', b', u', (List.range c.length).map (thr c (c.length + 1))) := by
          have fin : ∀ p : Int, 0 ≤ p → p < c.length → p = chase c (c.length + 1) (c.getD i z73).f1 → (rd_T73 c p).f0 ≠ 18 →
              Ev (fun k => impl_Thread.l0 k c (c.length : Int) ((i : Int) + 1) a b u c a' b' u' ((outs c (c.length + 1) i).set ((i : Int) : Int).toNat (⟨(rd_T73 (outs c (c.length + 1) i) (i : Int)).f0, p⟩ : S73))) (a', b', u', (List.range c.length).map (thr c (c.length + 1))) := by
            intro p hp0 hp1 he hne
            have e : (⟨(rd_T73 (outs c (c.length + 1) i) (i : Int)).f0, p⟩ : S73) = thr c (c.length + 1) i := by
              unfold thr
              rw [if_pos hl, ← he, if_neg hne, hget]
            rw [e, show ((i : Int)).toNat = i from by omega]
            unfold outs
            rw [upd _ _ i hi]
            exact ih
          intro d
          induction d with
          | zero =>
            intro j p hj hp0 hp1 he
            have he : p = chase c (c.length + 1) (c.getD i z73).f1 := he
            refine ev_step ?_
            simp only [impl_Thread.l1]
            refine ev_pos hp0 (ev_pos hp1 ?_)
            by_cases hq : (rd_T73 c p).f0 = 18
            · refine ev_pos hq (ev_neg (by omega) ?_)
              rw [w64 (by omega) (by omega)]
              have e : thr c (c.length + 1) i = c.getD i z73 := by
                unfold thr
                rw [if_pos hl, ← he, if_pos hq]
              have := upd_same (thr c (c.length + 1)) c i z73 hi e
              unfold outs
              rw [this]
              exact ih
            · refine ev_neg hq (ev_pos (by omega) (ev_pos (by omega) ?_))
              rw [w64 (by omega) (by omega)]
              exact fin p hp0 hp1 he hq
          | succ d ihd =>
            intro j p hj hp0 hp1 he
            refine ev_step ?_
            simp only [impl_Thread.l1]
            refine ev_pos hp0 (ev_pos hp1 ?_)
            obtain ⟨q, rfl⟩ := Int.eq_ofNat_of_zero_le hp0
            by_cases hq : (rd_T73 c (q : Int)).f0 = 18
            · refine ev_pos hq (ev_pos (by omega) ?_)
              rw [chase_go c d _ hq] at he
              have hqr := hm q (by omega) (by rw [rdn] at hq; rw [hq]; rfl)
              rw [w64 (x := (j : Int) + 1) (by omega) (by omega)]
              rw [← rdn] at hqr
              exact ihd (j + 1) _ (by omega) hqr.1 (by omega) he
            · refine ev_neg hq (ev_pos (by omega) (ev_pos (by omega) ?_))
              rw [chase_stop c _ _ hq] at he
              rw [w64 (by omega) (by omega)]
              exact fin _ hp0 hp1 he hq
        exact inner (c.length + 1) 0 _ (by omega) hr.1 (by omega) rfl
      · refine ev_neg hl ?_
        have e : thr c (c.length + 1) i = c.getD i z73 := by unfold thr; rw [if_neg hl]
        have := upd_same (thr c (c.length + 1)) c i z73 hi e
        unfold outs
        rw [this]
        exact ih)
    (by
      simp only [impl_Thread.l0]
      refine ev_neg (by omega) ?_
      unfold outs
      rw [upd_end]
      exact ev_some _)
  simpa [outs] using h

/-- What both tell. -/
def threaded : List S73 := if plainB c = true then (List.range c.length).map (thr c c.length) else c
theorem threaded_len : (threaded c).length = c.length := by unfold threaded; split <;> simp
theorem spec_is (hu : u.length ≤ 1048576) (hc : c.length ≤ 1048576) : Ev (fun k => spec_Thread.f k a b u c) (a, b, u, threaded c) := by
  unfold spec_Thread.f spec_l18Copy.f
  simp only [Option.bind_some, List.length_nil, List.nil_append]
  rw [if_pos (by omega), if_pos (by omega)]
  simp only [Option.bind_some]
  refine ev_bind (spec_plain_is a b u c hc) ?_
  unfold threaded
  by_cases hp : plainB c = true
  · rw [if_pos hp]
    exact ev_pos hp (spec_loop a b u c hp a b u)
  · rw [if_neg hp]
    exact ev_neg hp (ev_some _)
theorem impl_is (hu : u.length ≤ 1048576) (hc : c.length ≤ 1048576) : Ev (fun k => impl_Thread.f k a b u c) (a, b, u, threaded c) := by
  unfold impl_Thread.f impl_copyProto.f
  simp only [List.length_nil, List.nil_append]
  rw [if_pos (by omega), if_pos (by omega)]
  simp only [Option.bind_some]
  refine ev_bind (impl_plain_is a b u c hc) ?_
  unfold threaded
  by_cases hp : plainB c = true
  · rw [if_pos hp]
    have e : (List.range c.length).map (thr c c.length) = (List.range c.length).map (thr c (c.length + 1)) :=
      List.map_congr_left fun i hi => (thr_same hp i (by simpa using hi)).symm
    rw [e]
    exact ev_pos hp (impl_loop a b u c hp a b u)
  · rw [if_neg hp]
    exact ev_neg hp (ev_some _)
end

theorem FnExactThread : ∀ (a0_0 : Int) (a0_1 : Int) (l0_2 : List (S103)) (l0_3 : List (S105)), (((Lit.int .i64 a0_0).wf = true) ∧ ((Lit.int .i64 a0_1).wf = true) ∧ (l0_2.length ≤ maxLen ∧ ∀ y ∈ l0_2, ok103 y) ∧ (l0_3.length ≤ maxLen ∧ ∀ y ∈ l0_3, ok105 y)) → ∃ k, laws_FnExactThread.f k a0_0 a0_1 l0_2 l0_3 = some true := by
  rintro a b u c ⟨_, _, ⟨hum, _⟩, ⟨hcm, _⟩⟩
  unfold maxLen at hum hcm
  refine Ev.rounds ?_
  unfold laws_FnExactThread.f
  rcases szProto_is a b u c (by omega) (by omega) with ⟨t, ht, h0, hu, hc⟩ | ht
  · rw [ht]
    simp only [Option.bind_some]
    have hu2 : (u.map upC).length ≤ 1048576 := by simpa using hu
    have hc2 : (c.map insC).length ≤ 1048576 := by simpa using hc
    have hc3 : (threaded (c.map insC)).length ≤ 1048576 := by rw [threaded_len]; exact hc2
    refine ev_neg (by omega) (ev_bind (toProto_is a b u c hu hc) (ev_bind (spec_is a b _ _ hu2 hc2) (ev_bind (toProto_is a b u c hu hc) (ev_bind (impl_is a b _ _ hu2 hc2) (ev_bind (eqProto_is a b _ _ hu2 hc3) (ev_pos rfl (ev_bind (toProto_is a b u c hu hc) (ev_bind (eqProto_is a b _ _ hu2 hc2) (ev_pos rfl (ev_bind (markProto_is a b _ _ 1 (by omega) (by omega) hu2 hc2) (ev_neg (by simp only; omega) (ev_bind (eqProto_is a b _ _ hu2 hc3) ?_)))))))))))) 
    refine ev_step ?_
    simp only [laws_FnExactThread.j0]
    refine ev_neg (by simp) (ev_bind (markProto_is a b _ _ 1 (by omega) (by omega) hu2 hc3) (ev_bind (heldProto_is a b _ _ 1 (by omega) (by omega) hu2 hc3) (ev_neg (by omega) (ev_pos rfl (ev_bind (toProto_is a b u c hu hc) (ev_bind (impl_is a b _ _ hu2 hc2) (ev_bind (eqProto_is a b _ _ hu2 hc3) (ev_pos rfl (ev_bind (heldProto_is a b _ _ 1 (by omega) (by omega) hu2 hc3) (ev_neg (by omega) (ev_pos rfl (ev_some _))))))))))))
  · rw [ht]
    simp only [Option.bind_some]
    exact ev_pos (by omega) (ev_some _)
end Go.Proofs.Ytcbjdodehjpddaa.Pure
