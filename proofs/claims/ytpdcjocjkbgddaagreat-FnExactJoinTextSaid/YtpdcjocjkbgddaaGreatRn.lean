/- Arenas: tables. -/
import Derived.Test.YtpdcjocjkbgddaaGreatRk
namespace Go.Proofs.YtpdcjocjkbgddaaGreat.Abs
open Go.RowKit
set_option linter.unusedVariables false
set_option linter.unusedSimpArgs false
set_option maxRecDepth 20000
def usedW (ws : List U64) (b : Int) : Nat → Int
  | 0 => 0
  | n + 1 => usedW ws b n + (if gw ws (b + 1 + 4 * (n : Int)) = 0 then 0 else 1)
theorem usedW_range (ws : List U64) (b : Int) : ∀ n : Nat, 0 ≤ usedW ws b n ∧ usedW ws b n ≤ n
  | 0 => ⟨Int.le_refl _, Int.le_refl _⟩
  | n + 1 => by
    have := usedW_range ws b n
    unfold usedW
    split <;> omega
def s98 : Spec := fun args m Q => ∃ (s r : Sl) (a : Ar) (b : Int) (n : Nat), args = [vA s r a, .int .i64 b] ∧ ArAt m s r a ∧ a.wf ∧ 0 ≤ b ∧ n ≤ 64 ∧ (n : Int) = (lookW a.ws b).2.1 / 4 ∧ 0 ≤ (lookW a.ws b).2.1 ∧ b + 4 * (n : Int) < a.ws.length ∧ Q (.tuple #[.int .i64 (usedW a.ws b n), .int .i64 n]) m
theorem f98 (t : Tab) (h56 : look t 56 = s56) : ∀ args m Q, s98 args m Q → FA Tryz.prog (look t) kp98 Tryz.f98 args m Q := by
  rintro args m Q ⟨s, r, a, b, n, rfl, hA, hw, b0, n64, hn4, hz, bn, hQ⟩
  show FA Tryz.prog (look t) kp98 Tryz.f98 [.agg #[.slice s.a s.n s.c, .int .i64 a.semi, .int .i64 a.to, .int .i64 a.top, .bool a.cyc, .int .i64 a.scan, .int .i64 a.old, .int .i64 a.cop, .int .i64 a.ser, .slice r.a r.n r.c], .int .i64 b] m Q
  rw [e98]
  have hn := hA.n
  have hN := hw.n
  refine newA_intro fun g1 m2 hg1 e2 hb1 hle2 => ⟨_, _, _, cell_of hb1 0, _, cell_of hb1 1, _, cell_of hb1 2, _, cell_of hb1 3, _, cell_of hb1 4, _, cell_of hb1 5, _, cell_of hb1 6, _, cell_of hb1 7, _, cell_of hb1 8, _, _, _, cell_of hb1 9, via h56 ⟨s, r, a, b, rfl, ⟨hA.le hle2, hw, b0, by omega⟩, _, _, _, rfl, by decide, n + 1, ?_⟩⟩
  have hP : Ptr m2 g1 s r a := hb1
  have hA2 := hA.le hle2
  rw [Int.tdiv_eq_ediv_of_nonneg hz, ← hn4, w64 (x := (n : Int)) (by omega) (by omega)]
  suffices key : ∀ d i : Nat, i + d = n → L98_4 (look t) (d + 1) Q b g1 (n : Int) (usedW a.ws b i) (i : Int) m2 from key n 0 (by omega)
  intro d
  induction d with
  | zero =>
    intro i hi
    have : i = n := by omega
    subst this
    rw [l98_4]
    refine ⟨m2, Mem.le_refl _, ?_⟩
    rw [if_neg (by simp)]
    exact ret_intro hle2 hQ
  | succ d ih =>
    intro i hi
    have ur := usedW_range a.ws b i
    have nx := ih (i + 1) (by omega)
    unfold usedW at nx
    rw [l98_4]
    refine ⟨m2, Mem.le_refl _, ?_⟩
    rw [if_pos (by simp; omega)]
    refine ⟨_, _, _, cell_of hP 0, ?_⟩
    rw [w64 (x := b + 1) (by omega) (by omega), w64 (x := 4 * (i : Int)) (by omega) (by omega), w64 (x := b + 1 + 4 * (i : Int)) (by omega) (by omega), w64 (x := usedW a.ws b i + 1) (by omega) (by omega), wsucc (n := 64) (by omega) (by decide)]
    refine wd hA2.w hn (by omega) (by omega) fun ad had hd => ⟨_, hd _ (Mem.le_refl _), ?_⟩
    by_cases c : gw a.ws (b + 1 + 4 * (i : Int)) = 0
    · rw [if_neg (by simpa using c)]
      rw [if_pos c, Int.add_zero] at nx
      exact nx
    · rw [if_pos (by simpa using c)]
      rw [if_neg c] at nx
      exact nx
/-- Does an entry stand where its key is found? -/
def entP (ws : List U64) (b n i : Int) : Prop := (valW ws (b + 1 + 4 * i)).1 ≠ 0 → findA ws b n (valW ws (b + 1 + 4 * i)) = (i, true)
def blkN (ws : List U64) (b : Int) : Int := (lookW ws b).2.1 / 4
/-- Is a table right, where had are the blocks that others have? -/
def tabP (ws : List U64) (p : Int) (had : List Int) : Prop :=
  if (valW ws (p + 2)).1 = 0 then gw ws (p + 1) = 0 else
    (valW ws (p + 2)).1 = 8 ∧ whereW ws (valW ws (p + 2)).2 ∉ had ∧ (∀ i : Int, 0 ≤ i → i < blkN ws (whereW ws (valW ws (p + 2)).2) → entP ws (whereW ws (valW ws (p + 2)).2) (blkN ws (whereW ws (valW ws (p + 2)).2)) i) ∧
      gw ws (p + 1) = usedW ws (whereW ws (valW ws (p + 2)).2) (blkN ws (whereW ws (valW ws (p + 2)).2)).toNat ∧ 4 * gw ws (p + 1) ≤ 3 * blkN ws (whereW ws (valW ws (p + 2)).2)
def hadN (ws : List U64) (p : Int) (had : List Int) : List Int := if (valW ws (p + 2)).1 = 0 then had else whereW ws (valW ws (p + 2)).2 :: had
theorem findG_false {ws : List U64} {b n : Int} {key : Vl} : ∀ (f : Nat) (i : Int), (findG ws b n key f i).2 = false → (findG ws b n key f i).1 = -1 ∨ (valW ws (b + 1 + 4 * (findG ws b n key f i).1)).1 = 0
  | 0, i, _ => .inl rfl
  | f + 1, i, h => by
    unfold findG at h ⊢
    by_cases c : (valW ws (b + 1 + 4 * i)).1 = 0
    · rw [if_pos c]; exact .inr c
    · rw [if_neg c] at h ⊢
      by_cases c2 : sameA ws (valW ws (b + 1 + 4 * i)) key = true
      · rw [if_pos c2] at h; cases h
      · rw [if_neg c2] at h ⊢
        exact findG_false f _ h
theorem findA_ok {ws : List U64} {b n i : Int} {key : Vl} (i0 : 0 ≤ i) (ht : (valW ws (b + 1 + 4 * i)).1 ≠ 0) (h : (findA ws b n key).1 = i) : (findA ws b n key).2 = true := by
  unfold findA at h ⊢
  by_cases c : key.1 = 0
  · rw [if_pos c] at h
    have h : (-1 : Int) = i := h
    omega
  · rw [if_neg c] at h ⊢
    cases e : (findG ws b n key n.toNat (hashA ws key % n)).2 with
    | true => rfl
    | false =>
      rcases findG_false _ _ e with k | k
      · omega
      · rw [h] at k; exact absurd k ht
theorem rl {m : Mem} {a : Option Addr} {l : List Bool} {i : Int} {n : Nat} {K : Addr → Prop} (h : Rd m a l) (hn : l.length = n) (h0 : 0 ≤ i) (hi : i < n)
    (hK : ∀ ad, a = some ad → (∀ q : Mem, Mem.le m q → q.cell? (ad.add (i.toNat * 1)) = some (.bool (l.getD i.toNat false))) → K ad) : optA a fun ad => 0 ≤ i ∧ i < (n : Int) ∧ K ad :=
  at1 false (fun x : Bool => .bool x) (fun _ => rfl) h hn h0 hi hK
/-- A table's slot leads to a block that is right. -/
structure TabAt (a : Ar) (p : Int) : Prop where
  p0 : 0 ≤ p
  pz : p + 3 < a.ws.length
  ok : valOkB (valW a.ws (p + 2)) = true
  b : (valW a.ws (p + 2)).1 = 8 → (valW a.ws (p + 2)).2 < a.ws.length ∧ BlkOk a (whereW a.ws (valW a.ws (p + 2)).2) (blkN a.ws (whereW a.ws (valW a.ws (p + 2)).2)) ∧ 0 ≤ (lookW a.ws (whereW a.ws (valW a.ws (p + 2)).2)).2.1 ∧ placeA a (valW a.ws (p + 2)).2 = whereW a.ws (valW a.ws (p + 2)).2
theorem loopU (t : Tab) (h99 : look t 99 = s99) (h82 : look t 82 = s82) {Q : Value → Mem → Prop} {s r : Sl} {a : Ar} {b n cnt used : Int} {g : Nat} {m : Mem} (hw : a.wf) (hB : BlkOk a b n) (hP : Ptr m g s r a) (hA : ArAt m s r a)
    (c0 : 0 ≤ cnt ∨ cnt < 0 ∧ -9223372036854775808 ≤ cnt) (u0 : 0 ≤ used ∧ used ≤ 64) {P : Prop} (no : ∀ M, Mem.le m M → ¬ P → ret Q (.bool false) M) (yes : ∀ M, Mem.le m M → P → ret Q (.bool true) M)
    (hP1 : (∀ i : Int, 0 ≤ i → i < n → entP a.ws b n i) → cnt = used → 4 * cnt ≤ 3 * n → P) (hP2 : P → (∀ i : Int, 0 ≤ i → i < n → entP a.ws b n i) ∧ cnt = used ∧ 4 * cnt ≤ 3 * n) :
    ∀ (d i : Nat), (i : Int) + d = n → (∀ j : Int, 0 ≤ j → j < i → entP a.ws b n j) → ∀ M : Mem, Mem.le m M → L57_13 (look t) (d + 1) Q g cnt b used n (i : Int) M := by
  intro d
  have hN := hw.n
  have hn := hA.n
  have b0 := hB.b0
  have bn := hB.bn
  have n2 := hB.n2
  have n1 := hB.n1
  induction d with
  | zero =>
    intro i hi hz M hle
    rw [l57_13]
    refine ⟨M, Mem.le_refl _, ?_⟩
    rw [if_neg (by simp; omega)]
    by_cases c : cnt = used
    · rw [if_pos (by simpa using c), w64 (x := 4 * cnt) (by omega) (by omega), w64 (x := 3 * n) (by omega) (by omega)]
      by_cases c2 : 4 * cnt ≤ 3 * n
      · rw [decide_eq_true c2]; exact yes M hle (hP1 (fun j j0 j1 => hz j j0 (by omega)) c c2)
      · rw [decide_eq_false c2]; exact no M hle fun h => c2 (hP2 h).2.2
    · rw [if_neg (by simpa using c)]; exact no M hle fun h => c (hP2 h).2.1
  | succ d ih =>
    intro i hi hz M hle
    have hb1 := hle _ _ hP
    have hA := hA.le hle
    have i0 : (0 : Int) ≤ i := by omega
    have i1 : (i : Int) < n := by omega
    obtain ⟨v1, v2⟩ := hB.k i i0 i1
    rw [l57_13]
    refine ⟨M, Mem.le_refl _, ?_⟩
    rw [if_pos (by simp; omega), wsucc (n := 64) (by omega) (by decide)]
    refine ⟨_, _, _, cell_of hb1 0, _, cell_of hb1 1, _, cell_of hb1 2, _, cell_of hb1 3, _, cell_of hb1 4, _, cell_of hb1 5, _, cell_of hb1 6, _, cell_of hb1 7, _, cell_of hb1 8, _, _, _, cell_of hb1 9, via h99 ⟨s, r, a, b, i, rfl, hA, hw, b0, i0, by omega, _, _, rfl, newA_intro fun g8 m9 hg8 e9 hb8 hle9 => sto (c := #[.int .i64 0, .int .i64 0]) (t := 58) hb8 rfl (by simp) fun m10 e10 h10 hne10 => ?_⟩⟩
    have h10 : m10 g8 = some (.cells #[.int .i64 (readV a.ws (b + 1 + 4 * (i : Int))).1.1, .int .i64 (readV a.ws (b + 1 + 4 * (i : Int))).1.2] 58 (0, 0)) := h10
    rw [hB.read i0 i1] at h10
    have l10 : Mem.le M m10 := le_other hle9 hg8 hne10
    have hb1 := l10 _ _ hb1
    refine ⟨_, _, _, cell_of hb1 0, _, cell_of hb1 1, _, cell_of hb1 2, _, cell_of hb1 3, _, cell_of hb1 4, _, cell_of hb1 5, _, cell_of hb1 6, _, cell_of hb1 7, _, cell_of hb1 8, _, _, _, cell_of hb1 9, _, cell_of h10 0, _, cell_of h10 1, via h82 ⟨s, r, a, b, n, valW a.ws (b + 1 + 4 * (i : Int)), rfl, hA.le l10, hw, hB, v2, _, _, rfl, _, cell_of h10 0, ?_⟩⟩
    have nx : entP a.ws b n i → L57_13 (look t) (d + 1) Q g cnt b used n ((i + 1 : Nat) : Int) m10 := by
      intro h
      refine ih (i + 1) (by omega) (fun j j0 j1 => ?_) m10 (Mem.le_trans hle l10)
      by_cases e : j = i
      · rw [e]; exact h
      · exact hz j j0 (by omega)
    have bad : ¬ entP a.ws b n i → ret Q (.bool false) m10 := fun h => no _ (Mem.le_trans hle l10) fun hp => h ((hP2 hp).1 i i0 i1)
    by_cases c : (valW a.ws (b + 1 + 4 * (i : Int))).1 = 0
    · rw [if_neg (by simpa using c)]
      exact nx fun h => absurd c h
    · rw [if_pos (by simpa using c)]
      cases hf : (findA a.ws b n (valW a.ws (b + 1 + 4 * (i : Int)))).2 with
      | false =>
        rw [if_pos (by decide)]
        exact bad fun h => by rw [h c] at hf; cases hf
      | true =>
        rw [if_neg (by decide)]
        by_cases ce : (findA a.ws b n (valW a.ws (b + 1 + 4 * (i : Int)))).1 = i
        · rw [if_neg (by simpa using ce)]
          exact nx fun _ => Prod.ext ce hf
        · rw [if_pos (by simpa using ce)]
          exact bad fun h => ce (by rw [h c])
/-- The row of blocks that tables have. -/
def RLed (n : Nat) (led : List Bool) (had : List Int) : Prop := led.length = n ∧ ∀ x : Int, 0 ≤ x → x < n → (led.getD x.toNat false = true ↔ x ∈ had)
def s57 : Spec := fun args m Q => ∃ (s r ls : Sl) (a : Ar) (p : Int) (led : List Bool) (had : List Int) (gl : Nat) (tl : TypeId) (m0 : Mem), args = [vA s r a, .int .i64 p, vs ls] ∧ ls.a = some ⟨gl, 0, none⟩ ∧ ls.n = led.length ∧ m gl = some (.cells (flat Enc.e led ++ []).toArray tl (0, 0)) ∧ Mem.le m0 m ∧ m0 gl = none ∧ ArAt m0 s r a ∧ a.wf ∧ TabAt a p ∧ RLed a.ws.length led had ∧
  ∀ (M : Mem) (led' : List Bool), (∀ b o, b ≠ gl → m b = some o → M b = some o) → M gl = some (.cells (flat Enc.e led' ++ []).toArray tl (0, 0)) → (tabP a.ws p had → RLed a.ws.length led' (hadN a.ws p had)) → Q (.bool (pB (tabP a.ws p had))) M
theorem f57 (t : Tab) (h99 : look t 99 = s99) (h82 : look t 82 = s82) (h94 : look t 94 = s94) (h71 : look t 71 = s71) (h97 : look t 97 = s97) (h98 : look t 98 = s98) : ∀ args m Q, s57 args m Q → FA Tryz.prog (look t) kp57 Tryz.f57 args m Q := by
  rintro args m Q ⟨s, r, ls, a, p, led, had, gl, tl, m0, rfl, hla, hln, hgl, h0, hgl0, hA0, hw, hT, hR, hQ⟩
  show FA Tryz.prog (look t) kp57 Tryz.f57 [.agg #[.slice s.a s.n s.c, .int .i64 a.semi, .int .i64 a.to, .int .i64 a.top, .bool a.cyc, .int .i64 a.scan, .int .i64 a.old, .int .i64 a.cop, .int .i64 a.ser, .slice r.a r.n r.c], .int .i64 p, .slice ls.a ls.n ls.c] m Q
  rw [e57, hla]
  have hA := hA0.le h0
  have hn := hA.n
  have hN := hw.n
  have p0 := hT.p0
  have pz := hT.pz
  have er : readV a.ws (p + 2) = (valW a.ws (p + 2), true) := by unfold readV; rw [hT.ok]; rfl
  refine newA_intro fun g1 m2 hg1 e2 hb1 hle2 => ⟨_, _, _, cell_of hb1 0, ?_⟩
  rw [w64 (x := p + 2) (by omega) (by omega)]
  refine via h94 ⟨s, a.ws, _, rfl, hn, (hA.le hle2).w, hw.w, hN, by omega, by omega, _, _, _, rfl, newA_intro fun g12 m13 hg12 e13 hb12 hle13 => sto (c := #[.int .i64 0, .int .i64 0]) (t := 58) hb12 rfl (by simp) fun m14 e14 h14 hne14 => ?_⟩
  have h14 : m14 g12 = some (.cells #[.int .i64 (readV a.ws (p + 2)).1.1, .int .i64 (readV a.ws (p + 2)).1.2] 58 (0, 0)) := h14
  rw [er] at h14
  have l14 : Mem.le m2 m14 := le_other hle13 hg12 hne14
  have lm14 : Mem.le m m14 := Mem.le_trans hle2 l14
  have hb1 := l14 _ _ hb1
  refine ⟨_, _, _, cell_of hb1 0, _, cell_of hb1 1, _, cell_of hb1 2, _, cell_of hb1 3, _, cell_of hb1 4, _, cell_of hb1 5, _, cell_of hb1 6, _, cell_of hb1 7, _, cell_of hb1 8, _, _, _, cell_of hb1 9, via h71 ⟨s, r, a, p, 1, rfl, hA.le lm14, hw, p0, by decide, by omega, _, rfl, _, cell_of h14 0, ?_⟩⟩
  have hx := wrap_cases (gw_in hw.w (p + 1))
  have hx0 := (gw_in hw.w (p + 1)).1
  have hx1 := (gw_in hw.w (p + 1)).2
  have hcw : wordW a.ws p 1 = IntKind.i64.wrap (gw a.ws (p + 1)) := rfl
  rw [hcw]
  have hwr : -9223372036854775808 ≤ IntKind.i64.wrap (gw a.ws (p + 1)) := by
    unfold IntKind.wrap
    simp [IntKind.bits, IntKind.signed]
    omega
  have same : ∀ M, Mem.le m M → ∀ b o, b ≠ gl → m b = some o → M b = some o := fun M hM b o _ h => hM _ _ h
  have fin : ∀ (M : Mem) (c : Bool), Mem.le m M → pB (tabP a.ws p had) = c → (tabP a.ws p had → hadN a.ws p had = had) → ret Q (.bool c) M := fun M c hM hc hh => ⟨M, Mem.le_refl _, hc ▸ hQ M led (same M hM) (hM _ _ hgl) fun h => by rw [hh h]; exact hR⟩
  by_cases c0 : (valW a.ws (p + 2)).1 = 0
  · rw [if_pos (by simpa using c0)]
    have hh : hadN a.ws p had = had := by unfold hadN; rw [if_pos c0]
    have ht : tabP a.ws p had ↔ gw a.ws (p + 1) = 0 := by unfold tabP; rw [if_pos c0]
    by_cases cz : gw a.ws (p + 1) = 0
    · rw [show (IntKind.i64.wrap (gw a.ws (p + 1)) == 0) = true from by rw [cz]; decide]
      exact fin _ _ lm14 (pB_yes (ht.2 cz)) fun _ => hh
    · rw [show (IntKind.i64.wrap (gw a.ws (p + 1)) == 0) = false from by rw [beq_eq_false_iff_ne]; omega]
      exact fin _ _ lm14 (pB_no fun h => cz (ht.1 h)) fun _ => hh
  rw [if_neg (by simpa using c0)]
  have ht : tabP a.ws p had ↔ ((valW a.ws (p + 2)).1 = 8 ∧ whereW a.ws (valW a.ws (p + 2)).2 ∉ had ∧ (∀ i : Int, 0 ≤ i → i < blkN a.ws (whereW a.ws (valW a.ws (p + 2)).2) → entP a.ws (whereW a.ws (valW a.ws (p + 2)).2) (blkN a.ws (whereW a.ws (valW a.ws (p + 2)).2)) i) ∧
      gw a.ws (p + 1) = usedW a.ws (whereW a.ws (valW a.ws (p + 2)).2) (blkN a.ws (whereW a.ws (valW a.ws (p + 2)).2)).toNat ∧ 4 * gw a.ws (p + 1) ≤ 3 * blkN a.ws (whereW a.ws (valW a.ws (p + 2)).2)) := by unfold tabP; rw [if_neg c0]
  refine ⟨_, cell_of h14 0, ?_⟩
  by_cases c8 : (valW a.ws (p + 2)).1 = 8
  case neg => rw [if_pos (by simpa using c8)]; exact fin _ _ lm14 (pB_no fun h => c8 (ht.1 h).1) fun h => absurd (ht.1 h).1 c8
  rw [if_neg (by simpa using c8)]
  obtain ⟨q1, q2, q3, q4⟩ := hT.b c8
  have hh : hadN a.ws p had = whereW a.ws (valW a.ws (p + 2)).2 :: had := by unfold hadN; rw [if_neg c0]
  have hp := ref_pos hT.ok (by unfold isRefB kindT; rw [c8]; decide)
  refine ⟨_, _, _, cell_of hb1 0, _, cell_of hb1 1, _, cell_of hb1 2, _, cell_of hb1 3, _, cell_of hb1 4, _, cell_of hb1 5, _, cell_of hb1 6, _, cell_of hb1 7, _, cell_of hb1 8, _, _, _, cell_of hb1 9, _, cell_of h14 1, via h97 ⟨s, r, a, (valW a.ws (p + 2)).2, rfl, ⟨hA.le lm14, hw, by omega, q1⟩, _, rfl, ?_⟩⟩
  generalize hv : valW a.ws (p + 2) = v at *
  generalize hbk : whereW a.ws v.2 = blk at *
  have b0 := q2.b0
  have bn := q2.bn
  have n1 := q2.n1
  have n2 := q2.n2
  have hlen := hR.1
  refine rl (Rd.of_block (spare := []) (lm14 _ _ hgl) (by simp)) hln.symm b0 (by omega) fun ad had_ hd => ⟨_, hd _ (Mem.le_refl _), ?_⟩
  have hbi := hR.2 blk b0 (by omega)
  cases hl : led.getD blk.toNat false with
  | true =>
    rw [if_pos rfl]
    have : blk ∈ had := hbi.1 hl
    exact fin _ _ lm14 (pB_no fun h => (ht.1 h).2.1 this) fun h => absurd this (ht.1 h).2.1
  | false =>
    rw [if_neg (by decide)]
    have hnh : blk ∉ had := fun h => by rw [hbi.2 h] at hl; cases hl
    refine po ⟨b0, by omega, sto_elem (x := true) (i := blk.toNat) (lm14 _ _ hgl) (by rw [add_eq rfl, Nat.zero_add]; rfl) (by omega) ?_⟩
    obtain ⟨M1, hM1⟩ : ∃ M1, M1 = m14.upd gl (.cells (flat Enc.e (led.set blk.toNat true) ++ []).toArray tl (0, 0)) := ⟨_, rfl⟩
    rw [← hM1]
    have k1 : M1 gl = some (.cells (flat Enc.e (led.set blk.toNat true) ++ []).toArray tl (0, 0)) := by rw [hM1]; exact upd_same _ _ _
    have k2 : ∀ b, b ≠ gl → M1 b = m14 b := fun b hb => by rw [hM1]; exact upd_ne hb
    clear hM1
    have l01 : Mem.le m0 M1 := le_other (Mem.le_trans h0 lm14) hgl0 k2
    have hg1l : g1 ≠ gl := fun e => by rw [e] at hg1; rw [hg1] at hgl; cases hgl
    have hb1 : M1 g1 = _ := (k2 g1 hg1l).trans hb1
    have hR' : RLed a.ws.length (led.set blk.toNat true) (blk :: had) := by
      refine ⟨by rw [List.length_set]; exact hlen, fun x x0 x1 => ?_⟩
      rw [List.mem_cons, List.getD_eq_getElem?_getD, List.getElem?_set]
      by_cases e : x = blk
      · subst e
        rw [if_pos rfl, if_pos (by omega)]
        simp
      · rw [if_neg (by omega), ← List.getD_eq_getElem?_getD, hR.2 x x0 x1]
        simp [e]
    have frame : ∀ M, Mem.le M1 M → ∀ b o, b ≠ gl → m b = some o → M b = some o := fun M hM b o hb h => hM _ _ ((k2 b hb).trans (lm14 _ _ h))
    have fin2 : ∀ (M : Mem) (c : Bool), Mem.le M1 M → pB (tabP a.ws p had) = c → ret Q (.bool c) M := fun M c hM hc => ⟨M, Mem.le_refl _, hc ▸ hQ M _ (frame M hM) (hM _ _ k1) fun _ => by rw [hh]; exact hR'⟩
    have hA1 := hA0.le l01
    refine ⟨_, _, _, cell_of hb1 0, _, cell_of hb1 1, _, cell_of hb1 2, _, cell_of hb1 3, _, cell_of hb1 4, _, cell_of hb1 5, _, cell_of hb1 6, _, cell_of hb1 7, _, cell_of hb1 8, _, _, _, cell_of hb1 9, via h98 ⟨s, r, a, blk, (blkN a.ws blk).toNat, rfl, hA1, hw, b0, by omega, by have e : blkN a.ws blk = (lookW a.ws blk).2.1 / 4 := rfl; omega, q3, by omega, _, _, rfl, (blkN a.ws blk).toNat + 1, ?_⟩⟩
    rw [show ((blkN a.ws blk).toNat : Int) = blkN a.ws blk by omega]
    have ur := usedW_range a.ws blk (blkN a.ws blk).toNat
    exact loopU t h99 h82 (s := s) (r := r) (P := tabP a.ws p had) hw q2 hb1 hA1 (by omega) ⟨by omega, by omega⟩ (fun M hM h => fin2 M _ hM (pB_no h)) (fun M hM h => fin2 M _ hM (pB_yes h))
      (fun h1 h2 h3 => ht.2 ⟨c8, hnh, h1, by omega, by omega⟩) (fun h => ⟨(ht.1 h).2.2.1, by have := (ht.1 h).2.2.2; omega, by have := (ht.1 h).2.2.2; omega⟩) (blkN a.ws blk).toNat 0 (by omega) (fun j j0 j1 => by omega) M1 (Mem.le_refl _)
end Go.Proofs.YtpdcjocjkbgddaaGreat.Abs
