/- Modules: memory while what is used of a module is sought and laid. No condition. -/
import Derived.Test.YtcbjdodehjpddaaOa
namespace Go.Proofs.Ytcbjdodehjpddaa.Abs
open Go.RowKit
set_option linter.unusedVariables false
set_option linter.unusedSimpArgs false

/-- Two rows of one's own and a row that grows. -/
structure Un {α : Type} [Enc α] (tk : TypeId) (m M : Mem) (gk gt : Nat) (kl tl : List α) (s : Sl) (todo : List Int) (D : List Nat) : Prop where
  le : Mem.le m M
  bk : M gk = some (.cells (flat Enc.e kl).toArray tk (0, 0))
  bt : M gt = some (.cells (flat Enc.e tl).toArray tk (0, 0))
  q : OwnL M s todo D
  nd : (gk :: gt :: D).Nodup
  fr : ∀ b ∈ gk :: gt :: D, m b = none
section
variable {α : Type} [Enc α] {tk : TypeId} {m M M' : Mem} {gk gt : Nat} {kl tl : List α} {s : Sl} {todo : List Int} {D : List Nat} {K : Mem → Prop}
theorem Un.mono (I : Un tk m M gk gt kl tl s todo D) (h : Mem.le M M') : Un tk m M' gk gt kl tl s todo D :=
  ⟨Mem.le_trans I.le h, h _ _ I.bk, h _ _ I.bt, (Ds.rows Int).own_le h I.q, I.nd, I.fr⟩
theorem Un.ne (I : Un tk m M gk gt kl tl s todo D) : gk ≠ gt ∧ gk ∉ D ∧ gt ∉ D ∧ D.Nodup := by
  have := I.nd
  simp only [List.nodup_cons, List.mem_cons, not_or] at this
  exact ⟨this.1.1, this.1.2, this.2.1, this.2.2⟩
theorem Un.setK (I : Un tk m M gk gt kl tl s todo D) {i : Nat} {x : α} {a : Addr} (ha : a = ⟨gk, i * Enc.s α, none⟩) (hi : i < kl.length)
    (hK : ∀ M', Un tk m M' gk gt (kl.set i x) tl s todo D → (∀ b, b ≠ gk → M' b = M b) → K M') : stoA M a (Enc.e x) K := by
  obtain ⟨h1, h2, h3, h4⟩ := I.ne
  refine sto_elem (spare := []) (by rw [List.append_nil]; exact I.bk) ha hi (hK _ ⟨le_upd_fresh I.le (I.fr gk (by simp)), ?_, ?_, ?_, I.nd, I.fr⟩ (fun b hb => upd_ne hb))
  · rw [List.append_nil]; exact upd_same _ _ _
  · rw [upd_ne (Ne.symm h1)]; exact I.bt
  · exact I.q.ext fun b hb => upd_ne (by rintro rfl; exact h2 hb)
theorem Un.setT (I : Un tk m M gk gt kl tl s todo D) {i : Nat} {x : α} {a : Addr} (ha : a = ⟨gt, i * Enc.s α, none⟩) (hi : i < tl.length)
    (hK : ∀ M', Un tk m M' gk gt kl (tl.set i x) s todo D → (∀ b, b ≠ gt → M' b = M b) → K M') : stoA M a (Enc.e x) K := by
  obtain ⟨h1, h2, h3, h4⟩ := I.ne
  refine sto_elem (spare := []) (by rw [List.append_nil]; exact I.bt) ha hi (hK _ ⟨le_upd_fresh I.le (I.fr gt (by simp)), ?_, ?_, ?_, I.nd, I.fr⟩ (fun b hb => upd_ne hb))
  · rw [upd_ne h1]; exact I.bk
  · rw [List.append_nil]; exact upd_same _ _ _
  · exact I.q.ext fun b hb => upd_ne (by rintro rfl; exact h3 hb)
theorem Un.push (I : Un tk m M gk gt kl tl s todo D) {gs : Nat} {x : Int} {K : Option Addr → Nat → Mem → Prop} (hx : M gs = some (.cells #[.int .i64 x] 3 (0, 0))) (hl : todo.length ≤ 2 ^ 30)
    (hK : ∀ (s' : Sl) (D' : List Nat) (M' : Mem), s'.n = s.n + 1 → Un tk m M' gk gt kl tl s' (todo ++ [x]) D' → (∀ b o, M b = some o → b ∉ D → M' b = some o) → K s'.a s'.c M') :
    appR M s.a s.n s.c (some ⟨gs, 0, none⟩) 1 1 8 #[.int .i64 0] 3 K := by
  obtain ⟨h1, h2, h3, h4⟩ := I.ne
  refine app_sl (α := Int) (l := todo) (l2 := [x]) (D := D) rfl rfl (by decide) (by decide) (by decide) I.q rfl (Rd.of_block (spare := []) hx (by rfl)) (by simp; omega) fun s' D' M' hsn hO' hoff hfr hnd' => ?_
  have fr' : ∀ b ∈ D', b ∈ D ∨ M b = none := fun b hb => by
    rcases hfr with e | hfr
    · exact .inl (e ▸ hb)
    · exact .inr (hfr b hb)
  have nk : gk ∉ D' := fun hb => by
    rcases fr' _ hb with h | h
    · exact h2 h
    · rw [I.bk] at h; cases h
  have nt : gt ∉ D' := fun hb => by
    rcases fr' _ hb with h | h
    · exact h3 h
    · rw [I.bt] at h; cases h
  have fm : ∀ b ∈ D', m b = none := fun b hb => by
    rcases fr' _ hb with h | h
    · exact I.fr b (by simp [h])
    · exact le_none I.le h
  refine hK s' D' M' hsn ⟨le_off I.le fm hoff, by rw [hoff _ nk]; exact I.bk, by rw [hoff _ nt]; exact I.bt, hO', ?_, ?_⟩ fun b o ho hb => ?_
  · simp only [List.nodup_cons, List.mem_cons, not_or]
    exact ⟨⟨h1, nk⟩, nt, hnd'⟩
  · intro b hb
    simp only [List.mem_cons] at hb
    rcases hb with rfl | rfl | hb
    · exact I.fr _ (by simp)
    · exact I.fr _ (by simp)
    · exact fm b hb
  · rw [hoff b fun h => ?_]
    · exact ho
    · rcases fr' _ h with h | h
      · exact hb h
      · rw [ho] at h; cases h
end

/-- The module that is laid: its struct, two rows of numbers, its protos and texts. -/
structure Ou (m M : Mem) (go ga gb : Nat) (la lb : List Int) (ps : List Pr) (ts : List ByteArray) (s st : Sl) (D Dt : List Nat) : Prop where
  le : Mem.le m M
  bo : M go = some (.cells #[vs s, vs st] 55 (0, 0))
  ba : M ga = some (.cells (flat Enc.e la).toArray 3 (0, 0))
  bb : M gb = some (.cells (flat Enc.e lb).toArray 3 (0, 0))
  o : dPrs.Own M s ps D
  ot : dTx.Own M st ts Dt
  nd : (go :: ga :: gb :: (D ++ Dt)).Nodup
  fr : ∀ b ∈ go :: ga :: gb :: (D ++ Dt), m b = none
section
variable {m M M' : Mem} {go ga gb : Nat} {la lb : List Int} {ps : List Pr} {ts : List ByteArray} {s st : Sl} {D Dt : List Nat} {K : Mem → Prop}
theorem Ou.mono (I : Ou m M go ga gb la lb ps ts s st D Dt) (h : Mem.le M M') : Ou m M' go ga gb la lb ps ts s st D Dt :=
  ⟨Mem.le_trans I.le h, h _ _ I.bo, h _ _ I.ba, h _ _ I.bb, dPrs.own_le h I.o, dTx.own_le h I.ot, I.nd, I.fr⟩
structure OuNe (go ga gb : Nat) (D Dt : List Nat) : Prop where
  oa : go ≠ ga
  ob : go ≠ gb
  ab : ga ≠ gb
  oD : go ∉ D
  oT : go ∉ Dt
  aD : ga ∉ D
  aT : ga ∉ Dt
  bD : gb ∉ D
  bT : gb ∉ Dt
  dd : D.Nodup
  dt : Dt.Nodup
  DT : ∀ b ∈ D, b ∉ Dt
theorem ouNe {go ga gb : Nat} {D Dt : List Nat} : (go :: ga :: gb :: (D ++ Dt)).Nodup ↔ OuNe go ga gb D Dt := by
  simp only [List.nodup_cons, List.mem_cons, List.mem_append, not_or, List.nodup_append]
  constructor
  · rintro ⟨⟨h1, h2, h3, h4⟩, ⟨h5, h6, h7⟩, ⟨h8, h9⟩, h10, h11, h12⟩
    exact ⟨h1, h2, h5, h3, h4, h6, h7, h8, h9, h10, h11, fun b hb hb' => h12 b hb b hb' rfl⟩
  · rintro ⟨h1, h2, h5, h3, h4, h6, h7, h8, h9, h10, h11, h12⟩
    exact ⟨⟨h1, h2, h3, h4⟩, ⟨h5, h6, h7⟩, ⟨h8, h9⟩, h10, h11, fun b hb b' hb' e => h12 b hb (e ▸ hb')⟩
theorem Ou.ne (I : Ou m M go ga gb la lb ps ts s st D Dt) : OuNe go ga gb D Dt := ouNe.1 I.nd
theorem Ou.setA (I : Ou m M go ga gb la lb ps ts s st D Dt) {i : Nat} {x : Int} {a : Addr} (ha : a = ⟨ga, i * 1, none⟩) (hi : i < la.length)
    (hK : ∀ M', Ou m M' go ga gb (la.set i x) lb ps ts s st D Dt → (∀ b, b ≠ ga → M' b = M b) → K M') : stoA M a [.int .i64 x] K := by
  have N := I.ne
  refine sto_elem (α := Int) (x := x) (spare := []) (by rw [List.append_nil]; exact I.ba) ha hi (hK _ ⟨le_upd_fresh I.le (I.fr ga (by simp)), ?_, ?_, ?_, ?_, ?_, I.nd, I.fr⟩ (fun b hb => upd_ne hb))
  · rw [upd_ne N.oa]; exact I.bo
  · rw [List.append_nil]; exact upd_same _ _ _
  · rw [upd_ne (Ne.symm N.ab)]; exact I.bb
  · exact dPrs.own_ext I.o fun b hb => upd_ne (by rintro rfl; exact N.aD hb)
  · exact dTx.own_ext I.ot fun b hb => upd_ne (by rintro rfl; exact N.aT hb)
theorem Ou.setB (I : Ou m M go ga gb la lb ps ts s st D Dt) {i : Nat} {x : Int} {a : Addr} (ha : a = ⟨gb, i * 1, none⟩) (hi : i < lb.length)
    (hK : ∀ M', Ou m M' go ga gb la (lb.set i x) ps ts s st D Dt → (∀ b, b ≠ gb → M' b = M b) → K M') : stoA M a [.int .i64 x] K := by
  have N := I.ne
  refine sto_elem (α := Int) (x := x) (spare := []) (by rw [List.append_nil]; exact I.bb) ha hi (hK _ ⟨le_upd_fresh I.le (I.fr gb (by simp)), ?_, ?_, ?_, ?_, ?_, I.nd, I.fr⟩ (fun b hb => upd_ne hb))
  · rw [upd_ne N.ob]; exact I.bo
  · rw [upd_ne N.ab]; exact I.ba
  · rw [List.append_nil]; exact upd_same _ _ _
  · exact dPrs.own_ext I.o fun b hb => upd_ne (by rintro rfl; exact N.bD hb)
  · exact dTx.own_ext I.ot fun b hb => upd_ne (by rintro rfl; exact N.bT hb)
/-- A text is put behind the others. -/
theorem Ou.pushT (I : Ou m M go ga gb la lb ps ts s st D Dt) {gs : Nat} {x : ByteArray} {K : Option Addr → Nat → Mem → Prop} (hx : M gs = some (.cells #[.string x] 9 (0, 0))) (hl : ts.length ≤ 2 ^ 30)
    (hK : ∀ (st' : Sl) (Dt' : List Nat) (M1 : Mem), (∀ b, b ∉ Dt' → M1 b = M b) → (∀ b o, M b = some o → b ∉ Dt → M1 b = some o) → M1 go = some (.cells #[vs s, vs st] 55 (0, 0)) →
      (∀ M' : Mem, M' go = some (.cells #[vs s, .slice st'.a (st.n + 1) st'.c] 55 (0, 0)) → (∀ b, b ≠ go → M' b = M1 b) → Ou m M' go ga gb la lb ps (ts ++ [x]) s st' D Dt') → K st'.a st'.c M1) :
    appR M st.a st.n st.c (some ⟨gs, 0, none⟩) 1 1 16 #[.string ByteArray.empty] 9 K := by
  have N := I.ne
  refine app_sl (α := ByteArray) (l := ts) (l2 := [x]) (D := Dt) rfl rfl (by decide) (by decide) (by decide) I.ot rfl (Rd.of_block (spare := []) hx (by rfl)) (by simp; omega) fun s' D' M1 hsn hO' hoff hfr hnd' => ?_
  have fr' : ∀ b ∈ D', b ∈ Dt ∨ M b = none := fun b hb => by
    rcases hfr with e | hfr
    · exact .inl (e ▸ hb)
    · exact .inr (hfr b hb)
  have live : ∀ b o, M b = some o → b ∉ Dt → b ∉ D' := fun b o ho hb h => by
    rcases fr' _ h with h | h
    · exact hb h
    · rw [ho] at h; cases h
  have no := live _ _ I.bo N.oT
  have na := live _ _ I.ba N.aT
  have nb := live _ _ I.bb N.bT
  have nD : ∀ b ∈ D, b ∉ D' := fun b hb => by
    obtain ⟨o, ho⟩ := dPrs.live I.o b hb
    exact live _ _ ho (N.DT b hb)
  have fm : ∀ b ∈ D', m b = none := fun b hb => by
    rcases fr' _ hb with h | h
    · exact I.fr b (by simp [h])
    · exact le_none I.le h
  refine hK s' D' M1 hoff (fun b o ho hb => by rw [hoff b (live b o ho hb)]; exact ho) (by rw [hoff _ no]; exact I.bo) fun M' hM' hne => ?_
  have hsn : s'.n = st.n + 1 := hsn
  rw [← hsn] at hM'
  refine ⟨le_other (le_off I.le fm hoff) (I.fr go (by simp)) hne, hM', ?_, ?_, ?_, ?_, ouNe.2 ⟨N.oa, N.ob, N.ab, N.oD, no, N.aD, na, N.bD, nb, N.dd, hnd', nD⟩, ?_⟩
  · rw [hne _ (Ne.symm N.oa), hoff _ na]; exact I.ba
  · rw [hne _ (Ne.symm N.ob), hoff _ nb]; exact I.bb
  · exact dPrs.own_ext I.o fun b hb => by rw [hne b (by rintro rfl; exact N.oD hb), hoff b (nD b hb)]
  · exact dTx.own_ext hO' fun b hb => hne b (by rintro rfl; exact no hb)
  · intro b hb
    simp only [List.mem_cons, List.mem_append] at hb
    rcases hb with rfl | rfl | rfl | hb | hb
    · exact I.fr _ (by simp)
    · exact I.fr _ (by simp)
    · exact I.fr _ (by simp)
    · exact I.fr _ (by simp [hb])
    · exact fm b hb
/-- A proto with memory of its own is put behind the others. -/
theorem Ou.pushP (I : Ou m M go ga gb la lb ps ts s st D Dt) {gs : Nat} {x : Pr} {h' : PH} {E : List Nat} {M0 : Mem} {K : Option Addr → Nat → Mem → Prop} (hx : M gs = some (.cells #[.int .i64 h'.1, .int .i64 h'.2.1, vs h'.2.2.1, vs h'.2.2.2] 38 (0, 0))) (hl : ps.length ≤ 2 ^ 30)
    (hE : dPr.Own M h' x E) (hEn : E.Nodup) (hfr : ∀ b ∈ E, m b = none ∧ b ∉ go :: ga :: gb :: (D ++ Dt))
    (hK : ∀ (s' : Sl) (D' : List Nat) (M1 : Mem), (∀ b, b ∉ D' → M1 b = M b) → (∀ b o, M b = some o → b ∉ D → b ∉ E → M1 b = some o) → M1 go = some (.cells #[vs s, vs st] 55 (0, 0)) →
      (∀ M' : Mem, M' go = some (.cells #[.slice s'.a (s.n + 1) s'.c, vs st] 55 (0, 0)) → (∀ b, b ≠ go → M' b = M1 b) → Ou m M' go ga gb la lb (ps ++ [x]) ts s' st D' Dt) → K s'.a s'.c M1) :
    appR M s.a s.n s.c (some ⟨gs, 0, none⟩) 1 4 64 #[.int .i64 0, .int .i64 0, .slice none 0 0, .slice none 0 0] 38 K := by
  have N := I.ne
  have hE' : ∀ b ∈ E, b ≠ go ∧ b ≠ ga ∧ b ≠ gb ∧ b ∉ D ∧ b ∉ Dt := fun b hb => by
    have := (hfr b hb).2
    simp only [List.mem_cons, List.mem_append, not_or] at this
    exact this
  refine dPr.list_push (D := D) (E := E) (x := x) (h' := h') rfl rfl (by decide) (by decide) (by decide) I.o N.dd hE hEn (fun b hb => (hE' b hb).2.2.2.1) hx (by omega) fun s' D' M1 hsn ho hnd hin hout hoff => ?_
  have live : ∀ b o, M b = some o → b ∉ D → b ∉ E → b ∉ D' := fun b o ho hb hbE h => by
    rcases hin _ h with h | h | h
    · exact hb h
    · exact hbE h
    · rw [ho] at h; cases h
  have no := live _ _ I.bo N.oD fun h => (hE' _ h).1 rfl
  have na := live _ _ I.ba N.aD fun h => (hE' _ h).2.1 rfl
  have nb := live _ _ I.bb N.bD fun h => (hE' _ h).2.2.1 rfl
  have nT : ∀ b ∈ Dt, b ∉ D' := fun b hb => by
    obtain ⟨o, ho⟩ := dTx.live I.ot b hb
    exact live _ _ ho (fun h => N.DT b h hb) fun h => (hE' _ h).2.2.2.2 hb
  have fm : ∀ b ∈ D', m b = none := fun b hb => by
    rcases hin _ hb with h | h | h
    · exact I.fr b (by simp [h])
    · exact (hfr b h).1
    · exact le_none I.le h
  refine hK s' D' M1 hoff (fun b o ho hb hbE => by rw [hoff b (live b o ho hb hbE)]; exact ho) (by rw [hoff _ no]; exact I.bo) fun M' hM' hne => ?_
  rw [← hsn] at hM'
  refine ⟨le_other (le_off I.le fm hoff) (I.fr go (by simp)) hne, hM', ?_, ?_, ?_, ?_, ouNe.2 ⟨N.oa, N.ob, N.ab, no, N.oT, na, N.aT, nb, N.bT, hnd, N.dt, fun b hb hb' => nT b hb' hb⟩, ?_⟩
  · rw [hne _ (Ne.symm N.oa), hoff _ na]; exact I.ba
  · rw [hne _ (Ne.symm N.ob), hoff _ nb]; exact I.bb
  · exact dPrs.own_ext ho fun b hb => hne b (by rintro rfl; exact no hb)
  · exact dTx.own_ext I.ot fun b hb => by rw [hne b (by rintro rfl; exact N.oT hb), hoff b (nT b hb)]
  · intro b hb
    simp only [List.mem_cons, List.mem_append] at hb
    rcases hb with rfl | rfl | rfl | hb | hb
    · exact I.fr _ (by simp)
    · exact I.fr _ (by simp)
    · exact I.fr _ (by simp)
    · exact fm b hb
    · exact I.fr _ (by simp [hb])
/-- One proto: its header, its code, and what it is to write into the code. -/
theorem Ou.code (I : Ou m M go ga gb la lb ps ts s st D Dt) {i : Nat} (hi : i < ps.length) : ∃ (hs : List PH) (Dc : List Nat), ∃ h1 : hs.length = ps.length, Rd M s.a hs ∧ OwnL M (hs[i]'(by omega)).2.2.2 ps[i].2.2.2 Dc ∧ (∀ b ∈ Dc, b ∈ D) ∧
    ∀ (M' : Mem) (lc' : List Ins), OwnL M' (hs[i]'(by omega)).2.2.2 lc' Dc → (∀ b, b ∉ Dc → M' b = M b) → Ou m M' go ga gb la lb (ps.set i (ps[i].1, ps[i].2.1, ps[i].2.2.1, lc')) ts s st D Dt ∧ Rd M' s.a hs := by
  have N := I.ne
  obtain ⟨hs, Es, D0, h1, h2, hD, h3, h4⟩ := I.o
  have hil : i < hs.length := by rw [h1]; exact hi
  have hie : i < Es.length := by rw [h2]; exact hi
  have hown := h4 i _ _ _ (List.getElem?_eq_getElem hil) (List.getElem?_eq_getElem hi) (List.getElem?_eq_getElem hie)
  obtain ⟨E1, E2, hE, ⟨hp, rfl⟩, E3, E4, hE2, ⟨hsl, rfl⟩, Du, Dc, hE4, hu, hc⟩ := hown
  have hEs : Es[i] = Du ++ Dc := by rw [hE, hE2, hE4]; rfl
  have hcD : ∀ b ∈ Dc, b ∈ D := fun b hb => by rw [hD]; exact List.mem_append.2 (.inr (List.mem_flatten.2 ⟨Es[i], List.getElem_mem hie, by rw [hEs]; simp [hb]⟩))
  refine ⟨hs, Dc, h1, h3.rd, hc, hcD, fun M' lc' ho hoff => ?_⟩
  have hDn : (D0 ++ Es.flatten).Nodup := hD ▸ N.dd
  have hn := List.nodup_append.1 hDn
  have c0 : ∀ b ∈ D0, b ∉ Dc := fun b hb hb' => hn.2.2 b hb b (List.mem_flatten.2 ⟨Es[i], List.getElem_mem hie, by rw [hEs]; simp [hb']⟩) rfl
  have hEn : (Du ++ Dc).Nodup := by
    have := (List.pairwise_flatten.1 hn.2.1).1 Es[i] (List.getElem_mem hie)
    rw [hEs] at this
    exact this
  have cu : ∀ b ∈ Du, b ∉ Dc := fun b hb hb' => (List.nodup_append.1 hEn).2.2 b hb b hb' rfl
  refine ⟨⟨?_, ?_, ?_, ?_, ?_, ?_, I.nd, I.fr⟩, (h3.ext fun b hb => hoff b (c0 b hb)).rd⟩
  · exact le_off I.le (fun b hb => I.fr b (by simp [hcD b hb])) hoff
  · rw [hoff _ fun h => N.oD (hcD _ h)]; exact I.bo
  · rw [hoff _ fun h => N.aD (hcD _ h)]; exact I.ba
  · rw [hoff _ fun h => N.bD (hcD _ h)]; exact I.bb
  · have := dPr.list_set (m := M) (m' := M') (s := s) (l := ps) (hs := hs) (Es := Es) (D0 := D0) (i := i) (x' := (ps[i].1, ps[i].2.1, ps[i].2.2.1, lc')) (h' := hs[i]) (A := Es[i]) h1 h2 hDn h4 (List.getElem?_eq_getElem hie) ?_ ?_ ?_
    · rw [hD]; exact this
    · rw [List.set_getElem_self]; exact h3.ext fun b hb => hoff b (c0 b hb)
    · rw [hE, hE2, hE4]
      exact ⟨[], _, rfl, ⟨hp, rfl⟩, [], _, rfl, ⟨hsl, rfl⟩, Du, Dc, rfl, OwnL.ext hu fun b hb => hoff b (cu b hb), ho⟩
    · intro b _ hb
      exact hoff b fun h => hb (by rw [hEs]; simp [h])
  · exact dTx.own_ext I.ot fun b hb => hoff b fun h => N.DT b (hcD _ h) hb
theorem OwnL.setE {α : Type} [Enc α] {M : Mem} {s : Sl} {l : List α} {D : List Nat} (h : OwnL M s l D) {j : Nat} (hj : j < l.length) (x : α) : ∃ ad : Addr, s.a = some ad ∧ ∀ K : Mem → Prop, (∀ M', OwnL M' s (l.set j x) D → (∀ b, b ∉ D → M' b = M b) → K M') → stoA M (ad.add (j * Enc.s α)) (Enc.e x) K := by
  obtain ⟨hn, ⟨_, _, hl, _⟩ | ⟨g, t, spare, ha, hD, hm, hsz⟩⟩ := h
  · rw [hl] at hj; simp at hj
  · refine ⟨_, ha, fun K hK => ?_⟩
    refine sto_elem hm (by rw [add_eq rfl, Nat.zero_add]) hj (hK _ ⟨by simpa using hn, .inr ⟨g, t, spare, ha, hD, upd_same _ _ _, by simpa using hsz⟩⟩ fun b hb => upd_ne fun e => hb (by rw [hD, e]; simp))
theorem OwnL.setI {M : Mem} {s : Sl} {l : List Ins} {D : List Nat} (h : OwnL M s l D) {j : Nat} (hj : j < l.length) (v : Int) : ∃ ad : Addr, s.a = some ad ∧ ∀ K : Mem → Prop, (∀ M', OwnL M' s (l.set j (l[j].1, v)) D → (∀ b, b ∉ D → M' b = M b) → K M') → stoA M ((ad.add (j * 2)).add 1) [.int .i64 v] K := by
  obtain ⟨hn, ⟨_, _, hl, _⟩ | ⟨g, t, spare, ha, hD, hm, hsz⟩⟩ := h
  · rw [hl] at hj; simp at hj
  · refine ⟨_, ha, fun K hK => ?_⟩
    refine sto1 (i := j) (j := 1) (x := (l[j].1, v)) hm (by rw [add_add, add_eq rfl, Nat.zero_add]; rfl) rfl hj (by decide) rfl (hK _ ⟨by simpa using hn, .inr ⟨g, t, spare, ha, hD, upd_same _ _ _, by simpa using hsz⟩⟩ fun b hb => upd_ne fun e => hb (by rw [hD, e]; simp))
end
end Go.Proofs.Ytcbjdodehjpddaa.Abs
