/- The pure statement of FnExactStrip: both go through a plain code by the same queue, keep the same instructions and lead the jumps to the same places. -/
import Derived.Test.YtcbjdodehjpddaaPmFnExactStrip
import Derived.Test.YtcbjdodehjpddaaPpFnExactStrip
import Derived.Test.YtcbjdodehjpddaaOpFnExactStrip
namespace Go.Proofs.Ytcbjdodehjpddaa.Pure
open Go.RowKit Go.Proofs.YtcbjdodehjpddaaW.PrintWords Go.Proofs.Ytcbjdodehjpddaa.PFnExactStrip Go.Proofs.Ytcbjdodehjpddaa.OpFnExactStrip Go.Proofs.Ytcbjdodehjpddaa.Pl Go.Proofs.Ytcbjdodehjpddaa.Pv Go.Proofs.Ytcbjdodehjpddaa.PmFnExactStrip Go.Proofs.Ytcbjdodehjpddaa.PpFnExactStrip

theorem leads_spec (op : Int) : spec_l18Leads.f op = some (leads op) := by
  unfold spec_l18Leads.f leads
  by_cases h : op ≥ 18
  · rw [if_pos h, decide_eq_true (show 18 ≤ op from h)]; simp
  · rw [if_neg h, decide_eq_false (show ¬ 18 ≤ op from h)]; simp
theorem leads_iff (op : Int) : leads op = true ↔ 18 ≤ op ∧ op ≤ 21 := by
  unfold leads
  simp
section
variable (a b : Int) (u : List S101) (c : List S73)
/-- What the way through is told of a plain code. -/
theorem plain_code {c : List S73} (hp : plainB c = true) : codeOk c := by
  obtain ⟨h1, h2, _, hm⟩ := plain_mem hp
  refine ⟨by omega, h2, fun x hx h3 h4 => ?_⟩
  obtain ⟨i, hi, rfl⟩ := List.getElem_of_mem hx
  have := hm i hi (by rw [List.getD_eq_getElem?_getD, List.getElem?_eq_getElem hi]; exact (leads_iff _).2 ⟨h3, h4⟩)
  rw [List.getD_eq_getElem?_getD, List.getElem?_eq_getElem hi] at this
  simp only [Option.getD_some] at this
  omega

theorem come_step {s : List Bool} {q : List Int} {y : Int} (h : y < s.length) : comeM s q y = if rdOf false s y = true then (s, q) else (s.set y.toNat true, q ++ [y]) := by
  unfold comeM
  rw [if_pos h]
  rfl
theorem j1_is {s : List Bool} {q : List Int} {i : Nat} {x7 : Int} {fl : Bool} {o y : Int} {r : List Bool} (_hs : s.length ≤ 4000) (hq : q.length ≤ 4000) (hi : i ≤ 4000)
    (hf : fl = true → 0 ≤ x7 ∧ x7 < s.length) (hy : leads o = true → 0 ≤ y ∧ y < s.length) (st1 st2 : List Bool × List Int)
    (h1 : st1 = if fl = true then (s.set x7.toNat true, q ++ [x7]) else (s, q)) (h2 : st2 = if 18 ≤ o ∧ o ≤ 21 then comeM st1.1 st1.2 y else st1)
    (he : Ev (fun k => spec_l18Reach.l0 k st2.1 st2.2 ((i : Int) + 1) a b u c) r) : Ev (fun k => spec_l18Reach.j1 k s q (i : Int) x7 fl a b u c o y) r := by
  refine ev_step ?_
  simp only [spec_l18Reach.j1]
  rw [leads_spec, w64 (by omega) (by omega)]
  simp only [Option.bind_some]
  by_cases hl : leads o = true
  · have hl' := (leads_iff o).1 hl
    obtain ⟨hy0, hy1⟩ := hy hl
    rw [if_pos hl'] at h2
    by_cases hfl : fl = true
    · obtain ⟨hx0, hx1⟩ := hf hfl
      rw [if_pos hfl] at h1
      subst h1
      rw [come_step (by simpa using hy1)] at h2
      refine ev_pos hfl (ev_pos hx0 (ev_pos hx1 (ev_pos (by omega) (ev_pos hl (ev_pos hy0 (ev_pos hy1 ?_))))))
      by_cases hr : rdOf false (s.set x7.toNat true) y = true
      · rw [if_pos hr] at h2
        subst h2
        exact ev_pos hr he
      · rw [if_neg hr] at h2
        subst h2
        exact ev_neg hr (ev_pos (by simp; omega) he)
    · rw [if_neg hfl] at h1
      subst h1
      rw [come_step hy1] at h2
      refine ev_neg hfl (ev_pos hl (ev_pos hy0 (ev_pos hy1 ?_)))
      by_cases hr : rdOf false s y = true
      · rw [if_pos hr] at h2
        subst h2
        exact ev_pos hr he
      · rw [if_neg hr] at h2
        subst h2
        exact ev_neg hr (ev_pos (by omega) he)
  · have hl' : ¬ (18 ≤ o ∧ o ≤ 21) := fun h => hl ((leads_iff o).2 h)
    rw [if_neg hl'] at h2
    subst h2
    by_cases hfl : fl = true
    · obtain ⟨hx0, hx1⟩ := hf hfl
      rw [if_pos hfl] at h1
      subst h1
      exact ev_pos hfl (ev_pos hx0 (ev_pos hx1 (ev_pos (by omega) (ev_neg hl he))))
    · rw [if_neg hfl] at h1
      subst h1
      exact ev_neg hfl (ev_neg hl he)
theorem reach_loop (hp : plainB c = true) : ∀ d i : Nat, i + d = c.length → i ≤ (stM c i).2.length → Ev (fun k => spec_l18Reach.l0 k (stM c i).1 (stM c i).2 (i : Int) a b u c) (reachM c) := by
  have hok := plain_code hp
  have hinv := fun i => stM_inv (c := c) hok.1 (fun i hi h1 h2 => (codeOk_at hok i hi h1 h2).1) i
  have stop : ∀ i, i ≤ (stM c i).2.length → ¬ i < (stM c i).2.length → Ev (fun k => spec_l18Reach.l0 k (stM c i).1 (stM c i).2 (i : Int) a b u c) (reachM c) := by
    intro i h1 h2
    refine ev_step ?_
    simp only [spec_l18Reach.l0]
    refine ev_neg (by omega) ?_
    rw [reach_is (c := c) (i := i) (s := (stM c i).1) (q := (stM c i).2) rfl h1 h2 (inv_len (hinv i))]
    exact ev_some _
  intro d
  induction d with
  | zero =>
    intro i hd hi
    have := inv_len (hinv i)
    exact stop i hi (by omega)
  | succ d ih =>
    intro i hd hi
    by_cases hlt : i < (stM c i).2.length
    · have e : stM c (i + 1) = stepM c (stM c i) i := by
        show (if i < (stM c i).2.length then stepM c (stM c i) i else stM c i) = _
        rw [if_pos hlt]
      have hnext := ih (i + 1) (by omega) (by rw [e]; have := stepM_len c (stM c i) i; omega)
      rw [e] at hnext
      obtain ⟨hp0, hp1⟩ := rd_in (hinv i) hok.1 i
      have hsl : (stM c i).1.length = c.length := (hinv i).1
      have hql : (stM c i).2.length ≤ c.length := inv_len (hinv i)
      obtain ⟨p, hpe⟩ := Int.eq_ofNat_of_zero_le hp0
      have hx := codeOk_at hok p (by omega)
      refine ev_step ?_
      simp only [spec_l18Reach.l0]
      unfold stepM at hnext
      rw [hpe] at hp1 hnext ⊢
      have hy : leads (rd_T73 c (p : Int)).f0 = true → 0 ≤ (rd_T73 c (p : Int)).f1 ∧ (rd_T73 c (p : Int)).f1 < (stM c i).1.length := by
        intro h
        have h2 := (leads_iff _).1 h
        have := hx h2.1 h2.2
        omega
      have hn4 := hok.2.1
      rw [w64 (by omega) (by omega)]
      refine ev_pos (by omega) (ev_pos (by omega) (ev_pos (by omega) (ev_pos hp1 ?_)))
      have two : ∀ {st : List Bool × List Int} {o : Int} {y : Int}, (if 18 ≤ o ∧ o ≤ 21 then comeM st.1 st.2 y else st) = (if 18 ≤ o ∧ o ≤ 21 then comeM st.1 st.2 y else st) := rfl
      by_cases h18 : (rd_T73 c (p : Int)).f0 = 18
      · refine ev_pos h18 ?_
        rw [if_pos (show (rd_T73 c (p : Int)).f0 = 18 ∨ (rd_T73 c (p : Int)).f0 = 24 from .inl h18)] at hnext
        exact j1_is a b u c (by omega) (by omega) (by omega) (fun h => by cases h) hy _ _ rfl rfl (by simpa using hnext)
      · refine ev_neg h18 ?_
        by_cases h24 : (rd_T73 c (p : Int)).f0 = 24
        · refine ev_pos h24 ?_
          rw [if_pos (show (rd_T73 c (p : Int)).f0 = 18 ∨ (rd_T73 c (p : Int)).f0 = 24 from .inr h24)] at hnext
          exact j1_is a b u c (by omega) (by omega) (by omega) (fun h => by cases h) hy _ _ rfl rfl (by simpa using hnext)
        · refine ev_neg h24 ?_
          rw [if_neg (show ¬ ((rd_T73 c (p : Int)).f0 = 18 ∨ (rd_T73 c (p : Int)).f0 = 24) from fun h => h.elim h18 h24)] at hnext
          by_cases hin : (p : Int) + 1 < (c.length : Int)
          · refine ev_pos hin (ev_pos (by omega) (ev_pos (by omega) ?_))
            refine j1_is a b u c (by omega) (by omega) (by omega) (fun _ => ⟨by omega, by omega⟩) hy (comeM (stM c i).1 (stM c i).2 ((p : Int) + 1)) _ ?_ rfl hnext
            rw [come_step (by omega)]
            cases rdOf false (stM c i).1 ((p : Int) + 1) <;> simp
          · refine ev_neg hin ?_
            have e1 : comeM (stM c i).1 (stM c i).2 ((p : Int) + 1) = stM c i := by
              unfold comeM
              rw [if_neg (by omega)]
            rw [e1] at hnext
            exact j1_is a b u c (by omega) (by omega) (by omega) (fun h => by cases h) hy _ _ rfl rfl (by simpa using hnext)
    · exact stop i hi hlt
theorem reach_ev (hp : plainB c = true) : Ev (fun k => spec_l18Reach.f k a b u c) (reachM c) := by
  have hok := plain_code hp
  have h0 := hok.1
  have h1 := hok.2.1
  unfold spec_l18Reach.f
  refine ev_pos (by omega) (ev_pos (by omega) ?_)
  simp only [Option.bind_some]
  refine ev_pos (by simp; omega) ?_
  have h := reach_loop a b u c hp c.length 0 (by omega) (Nat.zero_le _)
  have e : stM c 0 = ((List.replicate c.length false).set 0 true, [0]) := by
    show comeM (List.replicate c.length false) [] 0 = _
    unfold comeM
    rw [if_pos (by simp; omega), if_neg (by simp [List.getD_eq_getElem?_getD, h0])]
    rfl
  rw [e] at h
  simpa using h
/-- A kept instruction, led to its new place. -/
def ledTo (pl : List Int) (x : S73) : S73 := if leads x.f0 = true then ⟨x.f0, rd pl x.f1⟩ else x
theorem jumpM_is (pl : List Int) (ol : List S73) : jumpM pl ol ol.length = ol.map (ledTo pl) := by
  have key : ∀ j, j ≤ ol.length → jumpM pl ol j = (List.range j).map (fun i => ledTo pl (ol.getD i z73)) ++ ol.drop j := by
    intro j
    induction j with
    | zero => intro _; simp [jumpM]
    | succ j ih =>
      intro hj
      have e := ih (by omega)
      have hg : rd_T73 (jumpM pl ol j) (j : Int) = ol.getD j z73 := by rw [jumpM_get pl ol j j (Nat.le_refl _), rdn]
      show (if 18 ≤ (rd_T73 (jumpM pl ol j) (j : Int)).f0 ∧ (rd_T73 (jumpM pl ol j) (j : Int)).f0 ≤ 21 then (jumpM pl ol j).set j ⟨(rd_T73 (jumpM pl ol j) (j : Int)).f0, rd pl (rd_T73 (jumpM pl ol j) (j : Int)).f1⟩ else jumpM pl ol j) = _
      rw [hg]
      by_cases hl : leads (ol.getD j z73).f0 = true
      · rw [if_pos ((leads_iff _).1 hl), e]
        have := upd (fun i => ledTo pl (ol.getD i z73)) ol j (by omega)
        rw [← this]
        simp only [ledTo]
        rw [if_pos hl]
      · rw [if_neg (fun h => hl ((leads_iff _).2 h)), e]
        exact upd_same (fun i => ledTo pl (ol.getD i z73)) ol j z73 (by omega) (by simp only [ledTo]; rw [if_neg hl])
  rw [key _ (Nat.le_refl _), List.drop_length, List.append_nil]
  exact map_range (ledTo pl) ol z73
theorem strip_l1 (hok : codeOk c) (s : List Bool) (hs : s.length = c.length) (pl : List Int) (hpl : pl.length = c.length) (a' b' : Int) (u' : List S101) :
    Ev (fun k => spec_Strip.l1 k s pl 0 a b u c a' b' u' []) (a', b', u', (keepM c s c.length).1.map (ledTo pl)) := by
  have h1 := hok.2.1
  have h := ev_loop (fun k (q : Int × List S73) => spec_Strip.l1 k s pl q.1 a b u c a' b' u' q.2) c.length (fun i => ((i : Int), (keepM c s i).1.map (ledTo pl))) (a', b', u', (keepM c s c.length).1.map (ledTo pl))
    (by
      intro i hi ih
      simp only [spec_Strip.l1]
      obtain ⟨hl, _⟩ := keepM_len c s i
      rw [leads_spec, w64 (by omega) (by omega)]
      simp only [Option.bind_some]
      refine ev_pos (by omega) (ev_pos (by omega) ?_)
      have hx := codeOk_at hok i hi
      have e : (keepM c s (i + 1)).1 = (if s.getD i false = true then (keepM c s i).1 ++ [rd_T73 c (i : Int)] else (keepM c s i).1) := rfl
      rw [e] at ih
      have hrd : rdOf false s (i : Int) = s.getD i false := by simp [rdOf]
      rw [hrd]
      by_cases hb : s.getD i false = true
      · rw [if_pos hb] at ih
        refine ev_pos hb (ev_pos (by omega) ?_)
        rw [List.map_append, List.map_singleton] at ih
        by_cases hld : leads (rd_T73 c (i : Int)).f0 = true
        · obtain ⟨hy0, hy1⟩ := hx ((leads_iff _).1 hld).1 ((leads_iff _).1 hld).2
          refine ev_pos hld (ev_pos hy0 (ev_pos (by omega) (ev_pos (by simp; omega) ?_)))
          rw [show ledTo pl (rd_T73 c (i : Int)) = ⟨(rd_T73 c (i : Int)).f0, rd pl (rd_T73 c (i : Int)).f1⟩ by unfold ledTo; rw [if_pos hld]] at ih
          exact ih
        · refine ev_neg hld (ev_pos (by simp; omega) ?_)
          rw [show ledTo pl (rd_T73 c (i : Int)) = rd_T73 c (i : Int) by unfold ledTo; rw [if_neg hld]] at ih
          exact ih
      · rw [if_neg hb] at ih
        exact ev_neg hb ih)
    (by
      simp only [spec_Strip.l1]
      exact ev_neg (by omega) (ev_some _))
  simpa [keepM] using h
theorem strip_l0 (hok : codeOk c) (s : List Bool) (hs : s.length = c.length) (a' b' : Int) (u' : List S101) (r' : List S73) :
    Ev (fun k => spec_Strip.l0 k s (List.replicate c.length 0) 0 0 a b u c a' b' u' r') (a', b', u', jumpM (keepM c s c.length).2 (keepM c s c.length).1 (keepM c s c.length).1.length) := by
  have h1 := hok.2.1
  have h := ev_loop (fun k (q : Int × List Int × Int) => spec_Strip.l0 k s q.2.1 q.2.2 q.1 a b u c a' b' u' r') c.length (fun i => ((i : Int), (keepM c s i).2, ((keepM c s i).1.length : Int))) (a', b', u', jumpM (keepM c s c.length).2 (keepM c s c.length).1 (keepM c s c.length).1.length)
    (by
      intro i hi ih
      simp only [spec_Strip.l0]
      obtain ⟨hl, hl2⟩ := keepM_len c s i
      rw [w64 (by omega) (by omega), w64 (by omega) (by omega)]
      simp only [Option.bind_some]
      refine ev_pos (by omega) (ev_pos (by omega) (ev_pos (by omega) ?_))
      have e : keepM c s (i + 1) = (if s.getD i false = true then (keepM c s i).1 ++ [rd_T73 c (i : Int)] else (keepM c s i).1, (keepM c s i).2.set i ((keepM c s i).1.length : Int)) := rfl
      rw [e] at ih
      have hrd : rdOf false s (i : Int) = s.getD i false := by simp [rdOf]
      rw [hrd, Int.toNat_natCast]
      by_cases hb : s.getD i false = true
      · rw [if_pos hb] at ih
        simp only [List.length_append, List.length_singleton, Int.natCast_add, Int.natCast_one] at ih
        exact ev_pos hb ih
      · rw [if_neg hb] at ih
        exact ev_neg hb ih)
    (by
      simp only [spec_Strip.l0]
      refine ev_neg (by omega) ?_
      rw [jumpM_is]
      exact strip_l1 a b u c hok s hs _ (keepM_len c s c.length).2 a' b' u')
  simpa [keepM] using h
/-- What both tell. -/
def stripped : List S73 := if plainB c = true then stripM c else c
theorem stripped_len : (stripped c).length ≤ c.length := by
  unfold stripped
  split
  · unfold stripM
    rw [jumpM_len]
    exact (keepM_len c _ c.length).1
  · exact Nat.le_refl _
theorem reachM_len (hp : plainB c = true) : (reachM c).length = c.length := by
  have hok := plain_code hp
  exact (stM_inv (c := c) hok.1 (fun i hi h1 h2 => (codeOk_at hok i hi h1 h2).1) c.length).1
theorem spec_is (hu : u.length ≤ 1048576) (hc : c.length ≤ 1048576) : Ev (fun k => spec_Strip.f k a b u c) (a, b, u, stripped c) := by
  unfold spec_Strip.f spec_l18Copy.f
  simp only [Option.bind_some, List.length_nil, List.nil_append]
  rw [if_pos (by omega), if_pos (by omega)]
  simp only [Option.bind_some]
  refine ev_bind (spec_plain_is a b u c hc) ?_
  unfold stripped
  by_cases hp : plainB c = true
  · rw [if_pos hp]
    have hok := plain_code hp
    have h0 := hok.1
    have h1 := hok.2.1
    have hrl := reachM_len c hp
    refine ev_pos hp (ev_bind (reach_ev a b u c hp) ?_)
    rw [hrl, w64 (by omega) (by omega)]
    refine ev_pos (by omega) (ev_pos (by omega) (ev_pos (by omega) (ev_pos (by omega) ?_)))
    rw [show ((c.length : Int) - 1).toNat = c.length - 1 by omega, Int.toNat_natCast]
    exact strip_l0 a b u c hok _ (by rw [List.length_set]; exact hrl) a b u c
  · rw [if_neg hp]
    exact ev_neg hp (ev_some _)
theorem impl_is (hu : u.length ≤ 1048576) (hc : c.length ≤ 1048576) : Ev (fun k => impl_Strip.f k a b u c) (a, b, u, stripped c) := by
  unfold impl_Strip.f impl_copyProto.f
  simp only [List.length_nil, List.nil_append]
  rw [if_pos (by omega), if_pos (by omega)]
  simp only [Option.bind_some]
  refine ev_bind (impl_plain_is a b u c hc) ?_
  unfold stripped
  by_cases hp : plainB c = true
  · rw [if_pos hp, if_pos hp]
    exact ev_pos (plain_code hp) (ev_some _)
  · rw [if_neg hp]
    rw [if_neg hp]
    exact ev_some _
end
theorem FnExactStrip : ∀ (a0_0 : Int) (a0_1 : Int) (l0_2 : List (S103)) (l0_3 : List (S105)), (((Lit.int .i64 a0_0).wf = true) ∧ ((Lit.int .i64 a0_1).wf = true) ∧ (l0_2.length ≤ maxLen ∧ ∀ y ∈ l0_2, ok103 y) ∧ (l0_3.length ≤ maxLen ∧ ∀ y ∈ l0_3, ok105 y)) → ∃ k, laws_FnExactStrip.f k a0_0 a0_1 l0_2 l0_3 = some true := by
  rintro a b u c ⟨_, _, ⟨hum, _⟩, ⟨hcm, _⟩⟩
  unfold maxLen at hum hcm
  refine Ev.rounds ?_
  unfold laws_FnExactStrip.f
  rcases szProto_is a b u c (by omega) (by omega) with ⟨t, ht, h0, hu, hc⟩ | ht
  · rw [ht]
    simp only [Option.bind_some]
    have hu2 : (u.map upC).length ≤ 1048576 := by simpa using hu
    have hc2 : (c.map insC).length ≤ 1048576 := by simpa using hc
    have hc3 : (stripped (c.map insC)).length ≤ 1048576 := Nat.le_trans (stripped_len _) hc2
    refine ev_neg (by omega) (ev_bind (toProto_is a b u c hu hc) (ev_bind (spec_is a b _ _ hu2 hc2) (ev_bind (toProto_is a b u c hu hc) (ev_bind (impl_is a b _ _ hu2 hc2) (ev_bind (eqProto_is a b _ _ hu2 hc3) (ev_pos rfl (ev_bind (toProto_is a b u c hu hc) (ev_bind (eqProto_is a b _ _ hu2 hc2) (ev_pos rfl (ev_bind (markProto_is a b _ _ 1 (by omega) (by omega) hu2 hc2) (ev_neg (by simp only; omega) (ev_bind (eqProto_is a b _ _ hu2 hc3) ?_)))))))))))) 
    refine ev_step ?_
    simp only [laws_FnExactStrip.j0]
    refine ev_neg (by simp) (ev_bind (markProto_is a b _ _ 1 (by omega) (by omega) hu2 hc3) (ev_bind (heldProto_is a b _ _ 1 (by omega) (by omega) hu2 hc3) (ev_neg (by omega) (ev_pos rfl (ev_bind (toProto_is a b u c hu hc) (ev_bind (impl_is a b _ _ hu2 hc2) (ev_bind (eqProto_is a b _ _ hu2 hc3) (ev_pos rfl (ev_bind (heldProto_is a b _ _ 1 (by omega) (by omega) hu2 hc3) (ev_neg (by omega) (ev_pos rfl (ev_some _))))))))))))
  · rw [ht]
    simp only [Option.bind_some]
    exact ev_pos (by omega) (ev_some _)
end Go.Proofs.Ytcbjdodehjpddaa.Pure
