/- Modules: the contracts of the functions that write marks into them. -/
import Derived.Test.YtcbjdodehjpddaaMr
namespace Go.Proofs.Ytcbjdodehjpddaa.Abs
open Go.RowKit
set_option linter.unusedVariables false
set_option linter.unusedSimpArgs false
set_option maxRecDepth 20000

theorem marks56_len (k : Int) (n : Nat) : (marks56 k n).length = n := by simp [marks56]
theorem marks57_len (k : Int) (n : Nat) : (marks57 k n).length = n := by simp [marks57]
def s56' : Spec := mkS dUp vs (fun k l => marks56 k l.length) (fun l => 2 * l.length) okR (2 ^ 50)
def s57' : Spec := mkS dIns vs (fun k l => marks57 k l.length) (fun l => 2 * l.length) okR (2 ^ 50)
theorem f56' (t : Tab) : ∀ args m Q, s56' args m Q → FA Try.prog (look t) kp56 Try.f56 args m Q := by
  rintro args m Q ⟨⟨a, n, c⟩, l, D, k, rfl, ⟨hn, hO⟩, hnd, hok, hk0, hk1, h⟩
  have hn : n = l.length := hn
  have hok : l.length ≤ 2 ^ 20 := hok
  rcases hO with ⟨ha, hc, hl, hD⟩ | ⟨g, ty, spare, ha, hD, hm, hsz⟩
  · have ha : a = none := ha
    have hc : c = 0 := hc
    subst ha hc hl hD hn
    show FA Try.prog (look t) kp56 Try.f56 [.slice none 0 0, .int .i64 k] m Q
    rw [e56]
    refine ⟨1, ?_⟩
    rw [l56_2]
    refine ⟨m, Mem.le_refl _, ?_⟩
    rw [if_neg (by simp)]
    have := h m (fun _ _ => rfl) ⟨rfl, .inl ⟨rfl, rfl, rfl, rfl⟩⟩
    simp at this
    exact ret_intro (Mem.le_refl _) this
  · have ha : a = some ⟨g, 0, none⟩ := ha
    subst ha hD
    refine f56 t _ _ _ ⟨g, n, c, l, spare, ty, k, rfl, hn.symm, by omega, by omega, hk1, hm, ?_⟩
    have hn : n = l.length := hn
    subst hn
    have := h (m.upd g (.cells (flat Enc.e (marks56 k l.length) ++ spare).toArray ty (0, 0))) (fun b hb => upd_ne (by simpa using hb)) ⟨(marks56_len k _).symm, .inr ⟨g, ty, spare, rfl, rfl, upd_same _ _ _, by show (marks56 k l.length).length * _ + _ = _; rw [marks56_len]; exact hsz⟩⟩
    simpa using this
theorem f57' (t : Tab) : ∀ args m Q, s57' args m Q → FA Try.prog (look t) kp57 Try.f57 args m Q := by
  rintro args m Q ⟨⟨a, n, c⟩, l, D, k, rfl, ⟨hn, hO⟩, hnd, hok, hk0, hk1, h⟩
  have hn : n = l.length := hn
  have hok : l.length ≤ 2 ^ 20 := hok
  rcases hO with ⟨ha, hc, hl, hD⟩ | ⟨g, ty, spare, ha, hD, hm, hsz⟩
  · have ha : a = none := ha
    have hc : c = 0 := hc
    subst ha hc hl hD hn
    show FA Try.prog (look t) kp57 Try.f57 [.slice none 0 0, .int .i64 k] m Q
    rw [e57]
    refine ⟨1, ?_⟩
    rw [l57_2]
    refine ⟨m, Mem.le_refl _, ?_⟩
    rw [if_neg (by simp)]
    have := h m (fun _ _ => rfl) ⟨rfl, .inl ⟨rfl, rfl, rfl, rfl⟩⟩
    simp at this
    exact ret_intro (Mem.le_refl _) this
  · have ha : a = some ⟨g, 0, none⟩ := ha
    subst ha hD
    refine f57 t _ _ _ ⟨g, n, c, l, spare, ty, k, rfl, hn.symm, by omega, by omega, hk1, hm, ?_⟩
    have hn : n = l.length := hn
    subst hn
    have := h (m.upd g (.cells (flat Enc.e (marks57 k l.length) ++ spare).toArray ty (0, 0))) (fun b hb => upd_ne (by simpa using hb)) ⟨(marks57_len k _).symm, .inr ⟨g, ty, spare, rfl, rfl, upd_same _ _ _, by show (marks57 k l.length).length * _ + _ = _; rw [marks57_len]; exact hsz⟩⟩
    simpa using this

def cntP (p : Pr) : Nat := 2 + 2 * p.2.2.1.length + 2 * p.2.2.2.length
def mkP (k : Int) (p : Pr) : Pr := (k, k + 1, marks56 (k + 2) p.2.2.1.length, marks57 (k + 2 + 2 * p.2.2.1.length) p.2.2.2.length)
def cntPs : List Pr → Nat
  | [] => 0
  | p :: r => cntP p + cntPs r
def mkPs : Int → List Pr → List Pr
  | _, [] => []
  | k, p :: r => mkP k p :: mkPs (k + cntP p) r
theorem mkPs_len : ∀ (k : Int) (l : List Pr), (mkPs k l).length = l.length
  | _, [] => rfl
  | k, p :: r => by simp [mkPs, mkPs_len]
theorem cntPs_app : ∀ (a b : List Pr), cntPs (a ++ b) = cntPs a + cntPs b
  | [], b => by simp [cntPs]
  | p :: a, b => by simp [cntPs, cntPs_app a b, Nat.add_assoc]
theorem mkPs_app : ∀ (k : Int) (a b : List Pr), mkPs k (a ++ b) = mkPs k a ++ mkPs (k + cntPs a) b
  | k, [], b => by simp [cntPs, mkPs]
  | k, p :: a, b => by
    simp only [List.cons_append, mkPs, mkPs_app (k + cntP p) a b, cntPs]
    congr 3
    push_cast
    omega
theorem cntPs_le : ∀ (l : List Pr), (∀ p ∈ l, okP p) → cntPs l ≤ l.length * 2 ^ 23
  | [], _ => by simp [cntPs]
  | p :: r, h => by
    have h1 := cntPs_le r (fun q hq => h q (by simp [hq]))
    have h2 := h p (by simp)
    have h3 : p.2.2.1.length ≤ 2 ^ 20 := h2.1
    have h4 : p.2.2.2.length ≤ 2 ^ 20 := h2.2
    simp only [cntPs, cntP, List.length_cons, Nat.add_mul]
    omega
theorem okP_mk {k : Int} {p : Pr} (h : okP p) : okP (mkP k p) := by
  unfold okP mkP at *
  simp only [marks56_len, marks57_len]
  exact h

def s81 : Spec := mkS dPrs vs mkPs cntPs okPs (2 ^ 48)
theorem f81 (t : Tab) (h56 : look t 56 = s56') (h57 : look t 57 = s57') : ∀ args m Q, s81 args m Q → FA Try.prog (look t) kp81 Try.f81 args m Q := by
  rintro args m Q ⟨⟨a, n, c⟩, l, D, k, rfl, hO, hnd, ⟨hok, hok2⟩, hk0, hk1, h⟩
  show FA Try.prog (look t) kp81 Try.f81 [.slice a n c, .int .i64 k] m Q
  rw [e81]
  have hcnt := cntPs_le l hok2
  suffices key : ∀ d i, i + d = l.length → ∀ M : Mem, dPrs.Own M (⟨a, n, c⟩ : Sl) (mkPs k (l.take i) ++ l.drop i) D → (∀ b, b ∉ D → M b = m b) → L81_2 (look t) (d + 1) Q a n c (k + cntPs (l.take i)) (i : Int) M from by
    have := key l.length 0 (by omega) m (by simpa [mkPs] using hO) (fun _ _ => rfl)
    exact ⟨l.length + 1, by simpa [cntPs] using this⟩
  intro d
  induction d with
  | zero =>
    intro i hi M hM hoff
    have ei : i = l.length := by omega
    rw [ei, List.take_length, List.drop_length, List.append_nil] at hM
    have hn : n = (mkPs k l).length := (dPrs.own_at hM).1
    rw [mkPs_len] at hn
    rw [l81_2]
    refine ⟨M, Mem.le_refl _, ?_⟩
    rw [if_neg (by simp; omega), ei, List.take_length]
    exact ret_intro (Mem.le_refl _) (h M hoff hM)
  | succ d ih =>
    intro i hi M hM hoff
    have hil : i < l.length := by omega
    have hn : n = (mkPs k (l.take i) ++ l.drop i).length := (dPrs.own_at hM).1
    have hlen : (mkPs k (l.take i) ++ l.drop i).length = l.length := by rw [List.length_append, mkPs_len, List.length_take, List.length_drop]; omega
    rw [hlen] at hn
    have hxi : (mkPs k (l.take i) ++ l.drop i)[i]? = some l[i] := by
      rw [List.getElem?_append_right (by rw [mkPs_len]; simp; omega), mkPs_len, List.length_take, Nat.min_eq_left (by omega), Nat.sub_self, List.getElem?_drop, Nat.add_zero, List.getElem?_eq_getElem hil]
    obtain ⟨(hs : List PH), Es, D0, hl, he, hD, hO0, how⟩ := hM
    have hl : hs.length = l.length := hl.trans hlen
    have he : Es.length = l.length := he.trans hlen
    have i1 : i < hs.length := by omega
    have i2 : i < Es.length := by omega
    have hii := how i hs[i] l[i] Es[i] (List.getElem?_eq_getElem i1) hxi (List.getElem?_eq_getElem i2)
    have okp := hok2 _ (List.getElem_mem hil)
    have htk : l.take (i + 1) = l.take i ++ [l[i]] := List.take_succ_eq_append_getElem hil
    have hset : (mkPs k (l.take i) ++ l.drop i).set i (mkP (k + cntPs (l.take i)) l[i]) = mkPs k (l.take (i + 1)) ++ l.drop (i + 1) := by
      rw [List.set_append_right _ _ (by rw [mkPs_len]; simp; omega), mkPs_len, List.length_take, Nat.min_eq_left (by omega), Nat.sub_self, List.drop_eq_getElem_cons hil, List.set_cons_zero, htk, mkPs_app]
      simp [mkPs]
    have hcs : cntPs (l.take (i + 1)) = cntPs (l.take i) + cntP l[i] := by rw [htk, cntPs_app]; simp [cntPs]
    have hcle : cntPs (l.take (i + 1)) ≤ cntPs l := by
      conv => rhs; rw [← List.take_append_drop (i + 1) l]
      rw [cntPs_app]
      omega
    have hcb : cntPs l ≤ 2 ^ 43 := by
      have : l.length * 2 ^ 23 ≤ 2 ^ 20 * 2 ^ 23 := Nat.mul_le_mul_right _ hok
      omega
    generalize hK : k + (cntPs (l.take i) : Int) = K at *
    have hEi : Es[i]? = some Es[i] := List.getElem?_eq_getElem i2
    have hnd2 := List.nodup_append.1 (hD ▸ hnd)
    generalize hhs : hs[i] = hh at *
    generalize hxs : l[i] = x at *
    generalize hes : Es[i] = E at *
    obtain ⟨p, s, ⟨ua, un, uc⟩, ⟨ca, cn, cc⟩⟩ := hh
    obtain ⟨p0, s0, lu, lc⟩ := x
    obtain ⟨E1, E2, hE, ⟨_, hE1⟩, E3, E4, hE', ⟨_, hE3⟩, Du, Dc, hE4, hu, hc'⟩ := hii
    subst hE1 hE3
    simp only [List.nil_append] at hE hE'
    subst hE' hE hE4
    obtain ⟨hlu, hlc⟩ : lu.length ≤ 2 ^ 20 ∧ lc.length ≤ 2 ^ 20 := okp
    have hcp : cntP (p0, s0, lu, lc) = 2 + 2 * lu.length + 2 * lc.length := rfl
    rw [l81_2]
    refine ⟨M, Mem.le_refl _, ?_⟩
    rw [if_pos (by simp; omega)]
    rcases hO0 with ⟨hn0, ⟨ha, hcz, hl0, _⟩ | ⟨g, ty, spare, ha, hD0, hm, hsz⟩⟩
    · have : hs.length = 0 := congrArg List.length hl0
      omega
    have ha : a = some ⟨g, 0, none⟩ := ha
    subst ha hD0
    have hgE : ∀ b ∈ Es.flatten, b ≠ g := fun b hb e => hnd2.2.2 g (by simp) b hb e.symm
    have hUE : ∀ b ∈ Du, b ∈ Es.flatten := fun b hb => List.mem_flatten.2 ⟨_, List.mem_of_getElem? hEi, by simp [hb]⟩
    have hCE : ∀ b ∈ Dc, b ∈ Es.flatten := fun b hb => List.mem_flatten.2 ⟨_, List.mem_of_getElem? hEi, by simp [hb]⟩
    have hndE : (Du ++ Dc).Nodup := (List.pairwise_flatten.1 hnd2.2.1).1 _ (List.mem_of_getElem? hEi)
    have hndU := List.nodup_append.1 hndE
    have hKb : 0 < K ∧ K + 4 + 2 * 2 ^ 20 ≤ 2 ^ 50 := by
      have : cntPs (l.take i) ≤ cntPs l := by rw [hcs] at hcle; omega
      omega
    have hUD : ∀ b ∈ Du, b ∉ Dc := fun b hb hb' => hndU.2.2 b hb b hb' rfl
    refine ⟨by omega, by omega, ?_⟩
    simp only [Int.toNat_natCast]
    refine sto1 (α := PH) (spare := spare) (i := i) (j := 0) (x := (K, s, ⟨ua, un, uc⟩, ⟨ca, cn, cc⟩)) hm (by rw [add_eq rfl]; show (⟨g, 0 + i * 4, none⟩ : Addr) = ⟨g, i * 4 + 0, none⟩; simp) rfl i1 (by decide) (by rw [hhs]; rfl) ?_
    refine ⟨by omega, by omega, ?_⟩
    refine sto1 (α := PH) (spare := spare) (i := i) (j := 1) (x := (K, K + 1, ⟨ua, un, uc⟩, ⟨ca, cn, cc⟩)) (upd_same _ _ _) (by rw [add_add, add_eq rfl]; show (⟨g, 0 + (i * 4 + 1), none⟩ : Addr) = ⟨g, i * 4 + 1, none⟩; simp) rfl (by simpa using i1) (by decide) (by rw [List.getElem_set_self, w64 (by omega) (by omega)]; rfl) ?_
    rw [upd_upd, List.set_set, w64 (x := K + 1) (by omega) (by omega), w64 (x := K + 1 + 1) (by omega) (by omega)]
    obtain ⟨m6, hm6⟩ : ∃ m6, m6 = M.upd g (.cells (flat Enc.e (hs.set i (K, K + 1, ⟨ua, un, uc⟩, ⟨ca, cn, cc⟩)) ++ spare).toArray ty (0, 0)) := ⟨_, rfl⟩
    rw [← hm6]
    have g6 : m6 g = some (.cells (flat Enc.e (hs.set i (K, K + 1, ⟨ua, un, uc⟩, ⟨ca, cn, cc⟩)) ++ spare).toArray ty (0, 0)) := by rw [hm6]; exact upd_same _ _ _
    have o6 : ∀ b, b ≠ g → m6 b = M b := fun b hb => by rw [hm6]; exact upd_ne hb
    clear hm6
    have rd6 : ∀ (q : Mem), q g = some (.cells (flat Enc.e (hs.set i (K, K + 1, ⟨ua, un, uc⟩, ⟨ca, cn, cc⟩)) ++ spare).toArray ty (0, 0)) → ∀ (j : Nat) (v : Value), (Enc.e ((K, K + 1, ⟨ua, un, uc⟩, ⟨ca, cn, cc⟩) : PH))[j]? = some v → q.cell? (((⟨g, 0, none⟩ : Addr).add (i * 4)).add j) = some v := by
      intro q hq j v hv
      rw [add_add]
      exact Rd.of_block (spare := spare) (l := hs.set i (K, K + 1, ⟨ua, un, uc⟩, ⟨ca, cn, cc⟩)) hq rfl i _ (List.getElem?_set_self i1) j v hv
    refine ⟨by omega, by omega, _, _, _, rd6 m6 g6 2 _ rfl, via h56 ⟨(⟨ua, un, uc⟩ : Sl), lu, Du, K + 1 + 1, rfl, dUp.own_ext hu (fun b hb => o6 b (hgE b (hUE b hb))), hndU.1, hlu, by omega, by omega, fun m' hoff' hown' => ⟨_, rfl, ?_⟩⟩⟩
    have g7 : m' g = some (.cells (flat Enc.e (hs.set i (K, K + 1, ⟨ua, un, uc⟩, ⟨ca, cn, cc⟩)) ++ spare).toArray ty (0, 0)) := by rw [hoff' g (fun hb => hgE g (hUE g hb) rfl)]; exact g6
    refine ⟨by omega, by omega, _, _, _, rd6 m' g7 3 _ rfl, via h57 ⟨(⟨ca, cn, cc⟩ : Sl), lc, Dc, _, rfl, dIns.own_ext hc' (fun b hb => by rw [hoff' b (fun hb' => hUD b hb' hb)]; exact o6 b (hgE b (hCE b hb))), hndU.2.1, hlc, by push_cast; omega, by push_cast; omega, fun m'' hoff'' hown'' => ⟨_, rfl, ?_⟩⟩⟩
    have g8 : m'' g = some (.cells (flat Enc.e (hs.set i (K, K + 1, ⟨ua, un, uc⟩, ⟨ca, cn, cc⟩)) ++ spare).toArray ty (0, 0)) := by rw [hoff'' g (fun hb => hgE g (hCE g hb) rfl)]; exact g7
    have o8 : ∀ b, b ≠ g → b ∉ Du → b ∉ Dc → m'' b = M b := fun b h1 h2 h3 => by rw [hoff'' b h3, hoff' b h2, o6 b h1]
    rw [wsucc (n := n) (by omega) (by omega)]
    have hval : K + 1 + 1 + ((2 * lu.length : Nat) : Int) + ((2 * lc.length : Nat) : Int) = k + cntPs (l.take (i + 1)) := by
      rw [hcs, hcp]
      push_cast
      omega
    show L81_2 (look t) (d + 1) Q (some ⟨g, 0, none⟩) n c (K + 1 + 1 + ((2 * lu.length : Nat) : Int) + ((2 * lc.length : Nat) : Int)) ((i + 1 : Nat) : Int) m''
    rw [hval]
    refine ih (i + 1) (by omega) m'' ?_ ?_
    · rw [← hset, hD]
      refine Ds.list_set dPr (hl.trans hlen.symm) (he.trans hlen.symm) (hD ▸ hnd) how hEi (h' := (K, K + 1, ⟨ua, un, uc⟩, ⟨ca, cn, cc⟩)) ?_ ?_ ?_
      · refine ⟨(hn.trans hl.symm).trans List.length_set.symm, .inr ⟨g, ty, spare, rfl, rfl, g8, ?_⟩⟩
        exact (congrArg (fun z => z * Enc.s PH + spare.length) List.length_set).trans hsz
      · refine ⟨[], _, rfl, ⟨rfl, rfl⟩, [], _, rfl, ⟨?_, rfl⟩, Du, Dc, rfl, dUp.own_ext ?_ (fun b hb => hoff'' b (hUD b hb)), ?_⟩
        · rfl
        · have e : K + 1 + 1 = K + 2 := by omega
          rw [e] at hown'
          exact hown'
        · have e : K + 1 + 1 + ((2 * lu.length : Nat) : Int) = K + 2 + 2 * (lu.length : Int) := by push_cast; omega
          rw [e] at hown''
          exact hown''
      · intro b hb hbn
        rw [List.mem_append, not_or] at hbn
        exact o8 b (hgE b hb) hbn.1 hbn.2
    · intro b hb
      rw [← hoff b hb]
      rw [hD, List.mem_append, not_or] at hb
      exact o8 b (by simpa using hb.1) (fun h => hb.2 (hUE b h)) (fun h => hb.2 (hCE b h))
end Go.Proofs.Ytcbjdodehjpddaa.Abs
