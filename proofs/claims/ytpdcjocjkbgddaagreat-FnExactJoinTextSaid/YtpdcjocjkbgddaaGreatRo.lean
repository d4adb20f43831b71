/- Arenas: the program's tables, with a map. -/
import Derived.Test.YtpdcjocjkbgddaaGreatRn
namespace Go.Proofs.YtpdcjocjkbgddaaGreat.Abs
open Go.RowKit
set_option linter.unusedVariables false
set_option linter.unusedSimpArgs false
set_option maxRecDepth 20000
theorem getM_putM (v : Value) (i j : Int) : ∀ L : List (Int × Value), getM (putM L i v) j = if j = i then some v else getM L j
  | [] => by simp [putM, getM]
  | p :: r => by
    unfold putM
    by_cases c : i = p.1
    · rw [if_pos c]
      unfold getM
      by_cases d : j = i
      · rw [if_pos d, if_pos d]
      · rw [if_neg d, if_neg d, if_neg (by rw [← c]; exact d)]
    · rw [if_neg c]
      unfold getM
      rw [getM_putM v i j r]
      by_cases d : j = p.1
      · rw [if_pos d, if_pos d, if_neg (by rw [d]; exact fun h => c h.symm)]
      · rw [if_neg d, if_neg d]
/-- A map holds a set of numbers. -/
def HasS (m : Mem) (gm : Nat) (had : List Int) : Prop := ∃ (es : Array MapEntry) (cl : Nat) (L : List (Int × Value)), m gm = some (.map es cl) ∧ MapIs .i64 es L ∧ ∀ i : Int, (getM L i).getD (.bool false) = .bool (decide (i ∈ had))
theorem HasS.at {m M : Mem} {gm : Nat} {had : List Int} (h : HasS m gm had) (e : ∀ o, m gm = some o → M gm = some o) : HasS M gm had := by
  obtain ⟨es, cl, L, h1, h2, h3⟩ := h
  exact ⟨es, cl, L, e _ h1, h2, h3⟩
theorem hasS_put {L : List (Int × Value)} {had : List Int} (h : ∀ i : Int, (getM L i).getD (.bool false) = .bool (decide (i ∈ had))) (x : Int) : ∀ i : Int, (getM (putM L x (.bool true)) i).getD (.bool false) = .bool (decide (i ∈ x :: had)) := by
  intro i
  rw [getM_putM]
  by_cases c : i = x
  · rw [if_pos c, c]; simp
  · rw [if_neg c, h i]; simp [c]
theorem loopV (t : Tab) (h125 : look t 125 = s125) (h85 : look t 85 = s85) {Q : Value → Mem → Prop} {s r is : Sl} {ms mb : Option Nat} {mk : List Int} {a : Ar} {b n cnt : Int} {gs g : Nat} {m : Mem} (hw : a.wf) (hsm : a.sm) (hB : BlkOk a b n) (hn4 : n = (lookW a.ws b).2.1 / 4) (hS : Svy m gs g s r is ms mb a mk)
    {P : Prop} (no : ∀ M, Mem.le m M → ¬ P → ret Q (.bool false) M) (yes : ∀ M, Mem.le m M → P → ret Q (.bool true) M)
    (hP1 : (∀ i : Int, 0 ≤ i → i < n → entP a.ws b n i) → cnt = usedW a.ws b n.toNat → 4 * cnt ≤ 3 * n → P) (hP2 : P → (∀ i : Int, 0 ≤ i → i < n → entP a.ws b n i) ∧ cnt = usedW a.ws b n.toNat ∧ 4 * cnt ≤ 3 * n) :
    ∀ (d i : Nat), (i : Int) + d = n → (∀ j : Int, 0 ≤ j → j < i → entP a.ws b n j) → ∀ M : Mem, Mem.le m M → L105_12 (look t) (d + 1) Q gs cnt b (usedW a.ws b i) n n (i : Int) M := by
  intro d
  have hN := hw.n
  have hn := hS.a.n
  have b0 := hB.b0
  have bn := hB.bn
  have n2 := hB.n2
  have n1 := hB.n1
  induction d with
  | zero =>
    intro i hi hz M hle
    have hi2 : i = n.toNat := by omega
    have ur := usedW_range a.ws b i
    rw [l105_12]
    refine ⟨M, Mem.le_refl _, ?_⟩
    rw [if_neg (by simp; omega), u64w (x := usedW a.ws b i) (by omega) (by omega)]
    rw [← hi2] at hP1 hP2
    by_cases c : usedW a.ws b i = cnt
    · rw [if_pos (by simpa using c), w64 (x := 4 * usedW a.ws b i) (by omega) (by omega), w64 (x := 3 * n) (by omega) (by omega)]
      by_cases c2 : 4 * usedW a.ws b i ≤ 3 * n
      · rw [decide_eq_true c2]; exact yes M hle (hP1 (fun j j0 j1 => hz j j0 (by omega)) c.symm (by omega))
      · rw [decide_eq_false c2]; exact no M hle fun h => by have := (hP2 h).2; omega
    · rw [if_neg (by simpa using c)]; exact no M hle fun h => c (hP2 h).2.1.symm
  | succ d ih =>
    intro i hi hz M hle
    have hS := hS.le hle
    have i0 : (0 : Int) ≤ i := by omega
    have i1 : (i : Int) < n := by omega
    have ur := usedW_range a.ws b i
    obtain ⟨v1, v2⟩ := hB.k i i0 i1
    obtain ⟨v3, v4⟩ := valOk_w hw.w v1
    rw [l105_12]
    refine ⟨M, Mem.le_refl _, ?_⟩
    rw [if_pos (by simp; omega), wsucc (n := 64) (by omega) (by decide), w64 (x := b + 1) (by omega) (by omega), w64 (x := 4 * (i : Int)) (by omega) (by omega), w64 (x := b + 1 + 4 * (i : Int)) (by omega) (by omega), w64 (x := usedW a.ws b i + 1) (by omega) (by omega)]
    refine ⟨_, cell_of hS.b 0, via h125 ⟨g, s, r, a, _, rfl, ⟨hS.p, hS.a, hw, by omega, by omega⟩, by omega, _, _, rfl, newA_intro fun g8 m9 hg8 e9 hb8 hle9 => sto (c := #[.int .i64 0, .int .i64 0]) (t := 58) hb8 rfl (by simp) fun m10 e10 h10 hne10 => ?_⟩⟩
    have h10 : m10 g8 = some (.cells #[.int .i64 (valW a.ws (b + 1 + 4 * (i : Int))).1, .int .i64 (valW a.ws (b + 1 + 4 * (i : Int))).2] 58 (0, 0)) := h10
    have l10 : Mem.le M m10 := le_other hle9 hg8 hne10
    have hS10 := hS.le l10
    have nx : entP a.ws b n i → L105_12 (look t) (d + 1) Q gs cnt b (usedW a.ws b (i + 1)) n n ((i + 1 : Nat) : Int) m10 := by
      intro h
      refine ih (i + 1) (by omega) (fun j j0 j1 => ?_) m10 (Mem.le_trans hle l10)
      by_cases e : j = i
      · rw [e]; exact h
      · exact hz j j0 (by omega)
    have bad : ¬ entP a.ws b n i → ret Q (.bool false) m10 := fun h => no _ (Mem.le_trans hle l10) fun hp => h ((hP2 hp).1 i i0 i1)
    unfold usedW at nx
    refine ⟨_, cell_of h10 0, ?_⟩
    by_cases c : (valW a.ws (b + 1 + 4 * (i : Int))).1 = 0
    · rw [if_pos (by simpa using c)]
      rw [if_pos (by omega), Int.add_zero] at nx
      exact nx fun h => absurd c h
    · rw [if_neg (by simpa using c)]
      rw [if_neg (by omega)] at nx
      refine ⟨Mem.le m10, Mem.le_refl _, _, held (cell_of hS10.b 0), _, held (cell_of h10 0), _, held (cell_of h10 1), via h85 ⟨g, s, r, a, b, n, valW a.ws (b + 1 + 4 * (i : Int)), rfl, hS10.p, hS10.a, hsm, hw, hB, hn4, v2.resolve_left c, _, _, rfl, Mem.le_refl _, ?_⟩⟩
      by_cases ce : (findA a.ws b n (valW a.ws (b + 1 + 4 * (i : Int)))).1 = i
      · rw [if_neg (by simpa using ce)]
        exact nx fun _ => Prod.ext ce (findA_ok i0 c ce)
      · rw [if_pos (by simpa using ce)]
        exact bad fun h => ce (by rw [h c])
def s105 : Spec := fun args m Q => ∃ (gs g gm : Nat) (s r is : Sl) (ms : Option Nat) (a : Ar) (mk : List Int) (p : Int) (had : List Int) (m0 : Mem), args = [.pointer (some ⟨gs, 0, none⟩), .int .i64 p] ∧ HasS m gm had ∧ Mem.le m0 m ∧ m0 gm = none ∧ Svy m0 gs g s r is ms (some gm) a mk ∧ a.sm ∧ a.wf ∧ TabAt a p ∧ ((valW a.ws (p + 2)).1 = 0 ∨ (valW a.ws (p + 2)).1 = 8) ∧
  ∀ (M : Mem) (had' : List Int), (∀ b o, b ≠ gm → m b = some o → M b = some o) → HasS M gm had' → (tabP a.ws p had → had' = hadN a.ws p had) → Q (.bool (pB (tabP a.ws p had))) M
theorem f105 (t : Tab) (h125 : look t 125 = s125) (h85 : look t 85 = s85) (h129 : look t 129 = s129) (h86 : look t 86 = s86) : ∀ args m Q, s105 args m Q → FA Tryz.prog (look t) kp105 Tryz.f105 args m Q := by
  rintro args m Q ⟨gs, g, gm, s, r, is, ms, a, mk, p, had, m0, rfl, hH, h0, hgm0, hS0, hsm, hw, hT, htag, hQ⟩
  rw [e105]
  have hS := hS0.le h0
  have hn := hS.a.n
  have hN := hw.n
  have p0 := hT.p0
  have pz := hT.pz
  have hx0 := (gw_in hw.w (p + 1)).1
  rw [w64 (x := p + 1) (by omega) (by omega), w64 (x := p + 2) (by omega) (by omega)]
  refine ⟨_, cell_of hS.b 0, po ⟨_, _, _, cell_of hS.p 0, wd hS.a.w hn (by omega) (by omega) fun ad had_ hd => ⟨_, hd _ (Mem.le_refl _), _, cell_of hS.b 0, via h125 ⟨g, s, r, a, _, rfl, ⟨hS.p, hS.a, hw, by omega, by omega⟩, by omega, _, _, rfl, newA_intro fun g17 m18 hg17 e18 hb17 hle18 => sto (c := #[.int .i64 0, .int .i64 0]) (t := 58) hb17 rfl (by simp) fun m19 e19 h19 hne19 => ?_⟩⟩⟩⟩
  have h19 : m19 g17 = some (.cells #[.int .i64 (valW a.ws (p + 2)).1, .int .i64 (valW a.ws (p + 2)).2] 58 (0, 0)) := h19
  have l19 : Mem.le m m19 := le_other hle18 hg17 hne19
  have hS19 := hS.le l19
  have hH19 : HasS m19 gm had := hH.at fun o h => l19 _ _ h
  have fin : ∀ (M : Mem) (c : Bool), Mem.le m M → pB (tabP a.ws p had) = c → (tabP a.ws p had → hadN a.ws p had = had) → ret Q (.bool c) M := fun M c hM hc hh => ⟨M, Mem.le_refl _, hc ▸ hQ M had (fun b o _ h => hM _ _ h) (hH.at fun o h => hM _ _ h) fun h => (hh h).symm⟩
  refine ⟨_, cell_of h19 0, ?_⟩
  by_cases c0 : (valW a.ws (p + 2)).1 = 0
  · rw [if_pos (by simpa using c0)]
    have hh : hadN a.ws p had = had := by unfold hadN; rw [if_pos c0]
    have ht : tabP a.ws p had ↔ gw a.ws (p + 1) = 0 := by unfold tabP; rw [if_pos c0]
    by_cases cz : gw a.ws (p + 1) = 0
    · rw [show (gw a.ws (p + 1) == 0) = true from by rw [cz]; decide]
      exact fin _ _ l19 (pB_yes (ht.2 cz)) fun _ => hh
    · rw [show (gw a.ws (p + 1) == 0) = false from by rw [beq_eq_false_iff_ne]; exact cz]
      exact fin _ _ l19 (pB_no fun h => cz (ht.1 h)) fun _ => hh
  rw [if_neg (by simpa using c0)]
  have c8 := htag.resolve_left c0
  have ht : tabP a.ws p had ↔ ((valW a.ws (p + 2)).1 = 8 ∧ whereW a.ws (valW a.ws (p + 2)).2 ∉ had ∧ (∀ i : Int, 0 ≤ i → i < blkN a.ws (whereW a.ws (valW a.ws (p + 2)).2) → entP a.ws (whereW a.ws (valW a.ws (p + 2)).2) (blkN a.ws (whereW a.ws (valW a.ws (p + 2)).2)) i) ∧
      gw a.ws (p + 1) = usedW a.ws (whereW a.ws (valW a.ws (p + 2)).2) (blkN a.ws (whereW a.ws (valW a.ws (p + 2)).2)).toNat ∧ 4 * gw a.ws (p + 1) ≤ 3 * blkN a.ws (whereW a.ws (valW a.ws (p + 2)).2)) := by unfold tabP; rw [if_neg c0]
  obtain ⟨q1, q2, q3, q4⟩ := hT.b c8
  have hh : hadN a.ws p had = whereW a.ws (valW a.ws (p + 2)).2 :: had := by unfold hadN; rw [if_neg c0]
  refine ⟨Mem.le m19, Mem.le_refl _, _, held (cell_of hS19.b 0), _, held (cell_of h19 0), _, held (cell_of h19 1), via h129 ⟨g, s, r, a, valW a.ws (p + 2), rfl, hS19.p, hS19.a, hsm, hw, _, rfl, Mem.le_refl _, ?_⟩⟩
  rw [q4]
  generalize hv : valW a.ws (p + 2) = v at *
  generalize hbk : whereW a.ws v.2 = blk at *
  have b0 := q2.b0
  have bn := q2.bn
  have n1 := q2.n1
  have n2 := q2.n2
  obtain ⟨es, cl, L, k1, k2, k3⟩ := hH19
  refine ⟨_, cell_of hS19.b 3, gm, es, cl, L, rfl, k1, k2, _, k3 blk, ?_⟩
  by_cases hin : blk ∈ had
  · rw [decide_eq_true hin, if_pos rfl]
    exact fin _ _ l19 (pB_no fun h => (ht.1 h).2.1 hin) fun h => absurd hin (ht.1 h).2.1
  rw [decide_eq_false hin, if_neg (by decide)]
  refine ⟨_, cell_of hS19.b 3, gm, es, cl, L, rfl, k1, k2, fun es' cl' hmi => ?_⟩
  obtain ⟨M1, hM1⟩ : ∃ M1, M1 = m19.upd gm (.map es' cl') := ⟨_, rfl⟩
  rw [← hM1]
  have u1 : M1 gm = some (.map es' cl') := by rw [hM1]; exact upd_same _ _ _
  have u2 : ∀ b, b ≠ gm → M1 b = m19 b := fun b hb => by rw [hM1]; exact upd_ne hb
  clear hM1
  have l01 : Mem.le m0 M1 := le_other (Mem.le_trans h0 l19) hgm0 u2
  have hS1 := hS0.le l01
  have hH1 : HasS M1 gm (blk :: had) := ⟨es', cl', _, u1, hmi, hasS_put k3 blk⟩
  have fin2 : ∀ (M : Mem) (c : Bool), Mem.le M1 M → pB (tabP a.ws p had) = c → ret Q (.bool c) M := fun M c hM hc => ⟨M, Mem.le_refl _, hc ▸ hQ M _ (fun b o hb h => hM _ _ ((u2 b hb).trans (l19 _ _ h))) (hH1.at fun o h => hM _ _ h) fun _ => hh.symm⟩
  refine ⟨_, cell_of hS1.b 0, via h86 ⟨g, s, r, a, blk, rfl, ⟨hS1.p, hS1.a, hw, b0, by omega⟩, _, _, _, rfl, by decide, (blkN a.ws blk).toNat + 1, ?_⟩⟩
  have e : (lookW a.ws blk).2.1 / 4 = blkN a.ws blk := rfl
  rw [Int.tdiv_eq_ediv_of_nonneg q3, e, w64 (x := blkN a.ws blk) (by omega) (by omega)]
  exact loopV t h125 h85 (P := tabP a.ws p had) hw hsm q2 rfl hS1 (fun M hM h => fin2 M _ hM (pB_no h)) (fun M hM h => fin2 M _ hM (pB_yes h))
    (fun h1 h2 h3 => ht.2 ⟨c8, hin, h1, h2, h3⟩) (fun h => ⟨(ht.1 h).2.2.1, (ht.1 h).2.2.2.1, (ht.1 h).2.2.2.2⟩) (blkN a.ws blk).toNat 0 (by omega) (fun j j0 j1 => by omega) M1 (Mem.le_refl _)
end Go.Proofs.YtpdcjocjkbgddaaGreat.Abs
