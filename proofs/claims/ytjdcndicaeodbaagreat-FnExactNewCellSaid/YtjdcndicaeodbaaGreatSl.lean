/- Arenas: what can be reached: what always holds while one goes over it (plain). -/
import Derived.Test.YtjdcndicaeodbaaGreatRy
namespace Go.Proofs.YtjdcndicaeodbaaGreat.Abs
open Go.RowKit
set_option linter.unusedVariables false
set_option linter.unusedSimpArgs false
set_option maxRecDepth 20000
theorem filter_one (x : Int) : ∀ l : List Int, l.Nodup → l.length ≤ (l.filter (fun y => decide (y ≠ x))).length + 1
  | [], _ => Nat.zero_le _
  | a :: l, h => by
    obtain ⟨h1, h2⟩ := List.nodup_cons.1 h
    by_cases c : a = x
    · have e : l.filter (fun y => decide (y ≠ x)) = l := List.filter_eq_self.2 fun y hy => by
        rw [decide_eq_true_eq]
        intro e
        exact h1 (by rw [c, ← e]; exact hy)
      rw [List.filter_cons_of_neg (by simpa using c), e]
      exact Nat.le_refl _
    · rw [List.filter_cons_of_pos (by simpa using c)]
      have := filter_one x l h2
      simp only [List.length_cons]
      omega
theorem nodup_le : ∀ (n : Nat) (l : List Int), l.Nodup → (∀ x ∈ l, 0 ≤ x ∧ x < n) → l.length ≤ n
  | 0, l, _, h => by
    cases l with
    | nil => exact Nat.le_refl _
    | cons a l => have := h a (by simp); omega
  | n + 1, l, hn, h => by
    have h1 := filter_one (n : Int) l hn
    have h2 := nodup_le n (l.filter (fun y => decide (y ≠ (n : Int)))) (hn.filter _) fun x hx => by
      rw [List.mem_filter, decide_eq_true_eq] at hx
      have := h x hx.1
      omega
    omega
/-- A value leads to an object, if it leads anywhere. -/
structure VOk (a : Ar) (mk : List Int) (v : Vl) : Prop where
  ok : valOkB v = true
  r : isRefB v = true → 0 < v.2 ∧ v.2 < a.ws.length ∧ 0 ≤ whereW a.ws v.2 ∧ whereW a.ws v.2 < a.ws.length ∧ hdM mk (whereW a.ws v.2) ∧ placeA a v.2 = whereW a.ws v.2
theorem vok_of {a : Ar} {mk : List Int} (hw : a.wf) (h : OkM a mk) {v : Vl} {frm : Int} (h1 : valOkB v = true) (h2 : leadsB a mk v frm = true) : VOk a mk v := by
  have hT := tile_ok hw h.N h.t
  have hM := hT.mkOk hw h.N
  have hn := hT.n
  refine ⟨h1, fun hr => ?_⟩
  obtain ⟨l1, l2, l3⟩ := leads_ok h2 hr
  have p := ref_pos h1 hr
  obtain ⟨w1, w2, w3⟩ := hT.where_ hw (by omega) l1 l2
  exact ⟨p, by omega, w1, by omega, w3, (hM.w v.2 (by omega) l1 l2).2.2⟩
theorem slot_vok {a : Ar} {mk : List Int} (hw : a.wf) (h : OkM a mk) {p : Int} (p0 : 0 ≤ p) (p1 : p < a.ws.length) (hp : hdM mk p) {k : Nat} (hk : k < slotN a.ws p) :
    VOk a mk (valW a.ws (p + slotAt a.ws p k)) ∧ 1 ≤ slotAt a.ws p k ∧ slotAt a.ws p k + 1 ≤ szW a.ws p ∧ p + szW a.ws p < a.ws.length := by
  have hT := tile_ok hw h.N h.t
  have hn := hT.n
  have hH := hT.head p0 (by omega) hp
  obtain ⟨e1, e2, e3, e4⟩ := hH.look hw
  have hm : slotAt a.ws p k ∈ slotsL (kdW a.ws p) (szW a.ws p) := by
    unfold slotAt
    unfold slotN at hk
    rw [Int.toNat_natCast, List.getD_eq_getElem?_getD, List.getElem?_eq_getElem hk]
    exact List.getElem_mem _
  have := slots_in e2 hm
  obtain ⟨v1, v2, v3⟩ := (h.o p p0 (by omega) hp).1 _ hm
  exact ⟨vok_of hw h v1 v2, this.1, this.2, hH.pz⟩
theorem root_vok {a : Ar} {mk : List Int} (hw : a.wf) (h : OkM a mk) {v : Vl} (hv : v ∈ a.rs) : VOk a mk v ∧ (isRefB v = true → whereW a.ws v.2 = v.2) := by
  have hT := tile_ok hw h.N h.t
  have hn := hT.n
  obtain ⟨h1, h2, h3⟩ := h.r v hv
  refine ⟨vok_of hw h h1 h3, fun hr => ?_⟩
  obtain ⟨l1, l2, l3⟩ := leads_ok h3 hr
  have p := ref_pos h1 hr
  have g1 : gi mk v.2 = 1 := by
    unfold leadsB at h3
    rw [hr, if_pos rfl, if_neg (by omega)] at h3
    split at h3
    · rename_i c; omega
    · cases h3
  have := ok_fwd (gw_in hw.w v.2) (hT.h v.2 (by omega) l1 (.inl g1)).1
  unfold whereW; rw [this]; rfl
/-- What always holds of what was come to. -/
structure BI (a : Ar) (mk : List Int) (st : List Int × List Stp) : Prop where
  nd : st.1.Nodup
  rg : ∀ p ∈ st.1, 0 ≤ p ∧ p < a.ws.length
  ln : st.2.length = st.1.length
  hd : ∀ e ∈ st.2, 0 ≤ e.p ∧ e.p < a.ws.length ∧ hdM mk e.p
  wy : wayI st.2
theorem BI.len {a : Ar} {mk : List Int} {st : List Int × List Stp} (h : BI a mk st) : st.2.length ≤ a.ws.length := by
  rw [h.ln]
  exact nodup_le _ _ h.nd h.rg
theorem BI.nil (a : Ar) (mk : List Int) : BI a mk ([], []) := ⟨List.nodup_nil, fun p hp => (by cases hp), rfl, fun p hp => (by cases hp), fun i e h => (by simp at h)⟩
def frmOk (S : List Stp) (frm : Int) (way : List Int) : Prop := frm = -1 ∧ way = [] ∨ ∃ (j : Nat) (e : Stp), frm = (j : Int) ∧ S[j]? = some e ∧ way = e.way
theorem BI.come {a : Ar} {mk : List Int} {st : List Int × List Stp} (h : BI a mk st) {v : Vl} {frm slot : Int} {way : List Int} (hv : VOk a mk v) (hf : frmOk st.2 frm way) : BI a mk (come a.ws st v frm slot way) := by
  unfold Abs.come
  split
  case isFalse => exact h
  case isTrue c =>
    obtain ⟨c1, c2⟩ := c
    obtain ⟨r1, r2, r3, r4, r5, r6⟩ := hv.r c1
    refine ⟨List.nodup_cons.2 ⟨c2, h.nd⟩, fun p hp => ?_, ?_, fun e he => ?_, wayI_app h.wy _ ?_⟩
    · rcases List.mem_cons.1 hp with rfl | hp
      · exact ⟨r3, r4⟩
      · exact h.rg p hp
    · rw [List.length_append, h.ln]; rfl
    · rcases List.mem_append.1 he with he | he
      · exact h.hd e he
      · rw [List.mem_singleton] at he
        rw [he]; exact ⟨r3, r4, r5⟩
    · rcases hf with ⟨f1, f2⟩ | ⟨j, e, f1, f2, f3⟩
      · left; exact ⟨f1, by show way ++ [slot] = [slot]; rw [f2]; rfl⟩
      · right; exact ⟨j, e, f1, f2, by show way ++ [slot] = e.way ++ [slot]; rw [f3]⟩
theorem pre_get {S T : List Stp} (h : S <+: T) {j : Nat} {e : Stp} (he : S[j]? = some e) : T[j]? = some e := by
  obtain ⟨R, rfl⟩ := h
  rw [List.getElem?_append_left (List.getElem?_eq_some_iff.1 he).1]
  exact he
theorem frmOk.pre {S T : List Stp} {frm : Int} {way : List Int} (h : frmOk S frm way) (hp : S <+: T) : frmOk T frm way := by
  rcases h with h | ⟨j, e, h1, h2, h3⟩
  · exact .inl h
  · exact .inr ⟨j, e, h1, pre_get hp h2, h3⟩
theorem BI.comeS {a : Ar} {mk : List Int} (hw : a.wf) (hk : OkM a mk) {p i : Int} {way : List Int} (p0 : 0 ≤ p) (p1 : p < a.ws.length) (hp : hdM mk p) : ∀ (d k : Nat) (st : List Int × List Stp), k + d ≤ slotN a.ws p → BI a mk st → frmOk st.2 i way → BI a mk (comeS a.ws p i way d k st)
  | 0, _, _, _, h, _ => h
  | d + 1, k, st, hd, h, hf => by
    unfold Abs.comeS
    have := BI.comeS hw hk p0 p1 hp d (k + 1) _ (by omega) (h.come (slot := (k : Int)) (slot_vok hw hk p0 p1 hp (k := k) (by omega)).1 hf) (hf.pre (come_pre ..))
    exact this
theorem BI.bfs {a : Ar} {mk : List Int} (hw : a.wf) (hk : OkM a mk) : ∀ (f i : Nat) (st : List Int × List Stp), BI a mk st → ∃ seen, BI a mk (seen, bfs a.ws f i st)
  | 0, _, st, h => ⟨st.1, h⟩
  | f + 1, i, st, h => by
    unfold Abs.bfs
    cases e : st.2[i]? with
    | none => exact ⟨st.1, h⟩
    | some x =>
      obtain ⟨x0, x1, x2⟩ := h.hd x (List.mem_of_getElem? e)
      exact BI.bfs hw hk f (i + 1) _ (BI.comeS hw hk x0 x1 x2 (slotN a.ws x.p) 0 st (by omega) h (.inr ⟨i, x, rfl, e, rfl⟩))
theorem BI.comeR {a : Ar} {mk : List Int} (hw : a.wf) (hk : OkM a mk) : ∀ (l : List Int) (st : List Int × List Stp), (∀ r ∈ l, 0 ≤ r ∧ r < a.rs.length) → BI a mk st → BI a mk (comeR a l st)
  | [], _, _, h => h
  | r :: l, st, hl, h => by
    unfold Abs.comeR
    have hr := hl r (by simp)
    have hm : a.rs.getD r.toNat (0, 0) ∈ a.rs := by
      rw [List.getD_eq_getElem?_getD, List.getElem?_eq_getElem (by omega)]
      exact List.getElem_mem _
    exact BI.comeR hw hk l _ (fun x hx => hl x (by simp [hx])) (h.come (root_vok hw hk hm).1 (.inl ⟨rfl, rfl⟩))
theorem BI.reach {a : Ar} {mk : List Int} (hw : a.wf) (hk : OkM a mk) {l : List Int} (hl : ∀ r ∈ l, 0 ≤ r ∧ r < a.rs.length) : ∃ seen, BI a mk (seen, reachL a l) :=
  BI.bfs hw hk _ _ _ (BI.comeR hw hk l _ hl (BI.nil a mk))
theorem way_len {S : List Stp} (h : wayI S) : ∀ (i : Nat) (e : Stp), S[i]? = some e → e.way.length ≤ i + 1 := by
  intro i
  induction i using Nat.strongRecOn with
  | ind i ih =>
    intro e he
    rcases h i e he with ⟨_, h2⟩ | ⟨j, e', _, h3, h4, h5⟩
    · rw [h2]
      show 1 ≤ i + 1
      omega
    · have := ih j h3 e' h4
      rw [h5, List.length_append]
      show e'.way.length + 1 ≤ i + 1
      omega
end Go.Proofs.YtjdcndicaeodbaaGreat.Abs
