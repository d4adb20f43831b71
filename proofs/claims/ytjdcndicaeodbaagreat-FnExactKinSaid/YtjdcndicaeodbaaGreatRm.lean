/- Arenas: the entry that a key has. -/
import Derived.Test.YtjdcndicaeodbaaGreatRl
namespace Go.Proofs.YtjdcndicaeodbaaGreat.Abs
open Go.RowKit
set_option linter.unusedVariables false
set_option linter.unusedSimpArgs false
set_option maxRecDepth 20000
def findG (ws : List U64) (b n : Int) (key : Vl) : Nat → Int → Int × Bool
  | 0, _ => (-1, false)
  | f + 1, i => if (valW ws (b + 1 + 4 * i)).1 = 0 then (i, false) else if sameA ws (valW ws (b + 1 + 4 * i)) key then (i, true) else findG ws b n key f ((i + 1) % n)
def findA (ws : List U64) (b n : Int) (key : Vl) : Int × Bool := if key.1 = 0 then (-1, false) else findG ws b n key n.toNat (hashA ws key % n)
/-- A block of n entries whose keys are right. -/
structure BlkOk (a : Ar) (b n : Int) : Prop where
  b0 : 0 ≤ b
  n1 : 1 ≤ n
  n2 : n ≤ 64
  bn : b + 4 * n < a.ws.length
  k : ∀ i : Int, 0 ≤ i → i < n → valOkB (valW a.ws (b + 1 + 4 * i)) = true ∧ ((valW a.ws (b + 1 + 4 * i)).1 = 0 ∨ KeyOk a (valW a.ws (b + 1 + 4 * i)))
theorem BlkOk.read {a : Ar} {b n i : Int} (h : BlkOk a b n) (i0 : 0 ≤ i) (i1 : i < n) : readV a.ws (b + 1 + 4 * i) = (valW a.ws (b + 1 + 4 * i), true) := by unfold readV; rw [(h.k i i0 i1).1]; rfl
theorem loopF (t : Tab) (h163 : look t 163 = s163) (h222 : look t 222 = s222) {Q : Value → Mem → Prop} {s r : Sl} {a : Ar} {b n : Int} {key : Vl} {g gk : Nat} {m : Mem} {res : Int × Bool} (hw : a.wf) (hB : BlkOk a b n) (hK : KeyOk a key) (hP : Ptr m g s r a) (hA : ArAt m s r a) (hk : m gk = some (.cells #[.int .i64 key.1, .int .i64 key.2] 52 (0, 0)))
    (hQ : ∀ M, Mem.le m M → ret Q (.tuple #[.int .i64 res.1, .bool res.2]) M) :
    ∀ (d j : Nat), (j : Int) + d = n → ∀ (i : Int), 0 ≤ i → i < n → findG a.ws b n key d i = res → ∀ M : Mem, Mem.le m M → L164_5 (look t) (d + 1) Q b n g gk i (j : Int) M := by
  intro d
  have hN := hw.n
  have hn := hA.n
  have b0 := hB.b0
  have bn := hB.bn
  have n2 := hB.n2
  induction d with
  | zero =>
    intro j hj i i0 i1 he M hle
    rw [l164_5]
    refine ⟨M, Mem.le_refl _, ?_⟩
    rw [if_neg (by simp; omega)]
    have he : ((-1 : Int), false) = res := he
    subst he
    exact hQ M hle
  | succ d ih =>
    intro j hj i i0 i1 he M hle
    have hb1 := hle _ _ hP
    have hA := hA.le hle
    rw [l164_5]
    refine ⟨M, Mem.le_refl _, ?_⟩
    rw [if_pos (by simp; omega)]
    obtain ⟨v1, v2⟩ := hB.k i i0 i1
    refine ⟨_, _, _, cell_of hb1 0, _, cell_of hb1 1, _, cell_of hb1 2, _, cell_of hb1 3, _, cell_of hb1 4, _, cell_of hb1 5, _, cell_of hb1 6, _, cell_of hb1 7, _, cell_of hb1 8, _, _, _, cell_of hb1 9, via h163 ⟨s, r, a, b, i, rfl, hA, hw, b0, i0, by omega, _, _, rfl, newA_intro fun g8 m9 hg8 e9 hb8 hle9 => sto (c := #[.int .i64 0, .int .i64 0]) (t := 52) hb8 rfl (by simp) fun m10 e10 h10 hne10 => ?_⟩⟩
    have h10 : m10 g8 = some (.cells #[.int .i64 (readV a.ws (b + 1 + 4 * i)).1.1, .int .i64 (readV a.ws (b + 1 + 4 * i)).1.2] 52 (0, 0)) := h10
    rw [hB.read i0 i1] at h10
    have l10 : Mem.le M m10 := le_other hle9 hg8 hne10
    refine ⟨_, cell_of h10 0, ?_⟩
    unfold findG at he
    by_cases c0 : (valW a.ws (b + 1 + 4 * i)).1 = 0
    · rw [if_pos c0] at he
      subst he
      rw [if_pos (by simpa using c0)]
      exact hQ _ (Mem.le_trans hle l10)
    rw [if_neg (by simpa using c0)]
    rw [if_neg c0] at he
    have hb1 := l10 _ _ hb1
    have hk1 := l10 _ _ (hle _ _ hk)
    refine ⟨_, _, _, cell_of hb1 0, _, cell_of hb1 1, _, cell_of hb1 2, _, cell_of hb1 3, _, cell_of hb1 4, _, cell_of hb1 5, _, cell_of hb1 6, _, cell_of hb1 7, _, cell_of hb1 8, _, _, _, cell_of hb1 9, _, cell_of h10 0, _, cell_of h10 1, _, cell_of hk1 0, _, cell_of hk1 1, via h222 ⟨s, r, a, valW a.ws (b + 1 + 4 * i), key, rfl, hA.le l10, hw, v2.resolve_left c0, hK, _, rfl, ?_⟩⟩
    cases hs : sameA a.ws (valW a.ws (b + 1 + 4 * i)) key with
    | true =>
      rw [hs, if_pos rfl] at he
      subst he
      rw [if_pos rfl]
      exact hQ _ (Mem.le_trans hle l10)
    | false =>
      rw [hs, if_neg (by decide)] at he
      rw [if_neg (by decide), w64 (x := i + 1) (by omega) (by omega), Int.tmod_eq_emod_of_nonneg (by omega), wsucc (n := 64) (by omega) (by decide)]
      refine ⟨by omega, ih (j + 1) (by omega) _ (Int.emod_nonneg _ (by omega)) (Int.emod_lt_of_pos _ (by omega)) he m10 (Mem.le_trans hle l10)⟩
theorem loopE (t : Tab) (h129 : look t 129 = s129) (h261 : look t 261 = s261) {Q : Value → Mem → Prop} {s r : Sl} {a : Ar} {b n : Int} {key : Vl} {g gk : Nat} {m : Mem} {res : Int × Bool} (hw : a.wf) (hsm : a.sm) (hB : BlkOk a b n) (hK : KeyOk a key) (hP : Ptr m g s r a) (hA : ArAt m s r a) (hk : m gk = some (.cells #[.int .i64 key.1, .int .i64 key.2] 52 (0, 0)))
    (hQ : ∀ M, Mem.le m M → ret Q (.tuple #[.int .i64 res.1, .bool res.2]) M) :
    ∀ (d j : Nat), (j : Int) + d = n → ∀ (i : Int), 0 ≤ i → i < n → findG a.ws b n key d i = res → ∀ M : Mem, Mem.le m M → L226_4 (look t) (d + 1) Q g b gk n i n (j : Int) M := by
  intro d
  have hN := hw.n
  have hn := hA.n
  have b0 := hB.b0
  have bn := hB.bn
  have n2 := hB.n2
  induction d with
  | zero =>
    intro j hj i i0 i1 he M hle
    rw [l226_4]
    refine ⟨M, Mem.le_refl _, ?_⟩
    rw [if_neg (by simp; omega)]
    have he : ((-1 : Int), false) = res := he
    subst he
    exact hQ M hle
  | succ d ih =>
    intro j hj i i0 i1 he M hle
    have hb1 := hle _ _ hP
    have hA := hA.le hle
    rw [l226_4]
    refine ⟨M, Mem.le_refl _, ?_⟩
    rw [if_pos (by simp; omega), w64 (x := b + 1) (by omega) (by omega), w64 (x := 4 * i) (by omega) (by omega), w64 (x := b + 1 + 4 * i) (by omega) (by omega)]
    obtain ⟨v1, v2⟩ := hB.k i i0 i1
    refine via h129 ⟨g, s, r, a, _, rfl, ⟨hb1, hA, hw, by omega, by omega⟩, by omega, _, _, rfl, newA_intro fun g8 m9 hg8 e9 hb8 hle9 => sto (c := #[.int .i64 0, .int .i64 0]) (t := 52) hb8 rfl (by simp) fun m10 e10 h10 hne10 => ?_⟩
    have h10 : m10 g8 = some (.cells #[.int .i64 (valW a.ws (b + 1 + 4 * i)).1, .int .i64 (valW a.ws (b + 1 + 4 * i)).2] 52 (0, 0)) := h10
    have l10 : Mem.le M m10 := le_other hle9 hg8 hne10
    refine ⟨_, cell_of h10 0, ?_⟩
    unfold findG at he
    by_cases c0 : (valW a.ws (b + 1 + 4 * i)).1 = 0
    · rw [if_pos c0] at he
      subst he
      rw [if_pos (by simpa using c0)]
      exact hQ _ (Mem.le_trans hle l10)
    rw [if_neg (by simpa using c0)]
    rw [if_neg c0] at he
    have hk1 := l10 _ _ (hle _ _ hk)
    refine ⟨_, cell_of h10 0, _, cell_of h10 1, _, cell_of hk1 0, _, cell_of hk1 1, via h261 ⟨g, s, r, a, valW a.ws (b + 1 + 4 * i), key, rfl, l10 _ _ hb1, hA.le l10, hsm, hw, v2.resolve_left c0, hK, _, rfl, ?_⟩⟩
    cases hs : sameA a.ws (valW a.ws (b + 1 + 4 * i)) key with
    | true =>
      rw [hs, if_pos rfl] at he
      subst he
      rw [if_pos rfl]
      exact hQ _ (Mem.le_trans hle l10)
    | false =>
      rw [hs, if_neg (by decide)] at he
      rw [if_neg (by decide), w64 (x := i + 1) (by omega) (by omega), Int.tmod_eq_emod_of_nonneg (by omega), wsucc (n := 64) (by omega) (by decide)]
      refine ⟨by omega, ih (j + 1) (by omega) _ (Int.emod_nonneg _ (by omega)) (Int.emod_lt_of_pos _ (by omega)) he m10 (Mem.le_trans hle l10)⟩
def s164 : Spec := fun args m Q => ∃ (s r : Sl) (a : Ar) (b n : Int) (key : Vl), args = [vA s r a, .int .i64 b, .int .i64 n, vVl key] ∧ ArAt m s r a ∧ a.wf ∧ BlkOk a b n ∧ (key.1 = 0 ∨ KeyOk a key) ∧ Q (.tuple #[.int .i64 (findA a.ws b n key).1, .bool (findA a.ws b n key).2]) m
theorem f164 (t : Tab) (h163 : look t 163 = s163) (h222 : look t 222 = s222) (h221 : look t 221 = s221) : ∀ args m Q, s164 args m Q → FA Tryz.prog (look t) kp164 Tryz.f164 args m Q := by
  rintro args m Q ⟨s, r, a, b, n, key, rfl, hA, hw, hB, hK, hQ⟩
  show FA Tryz.prog (look t) kp164 Tryz.f164 [.agg #[.slice s.a s.n s.c, .int .i64 a.semi, .int .i64 a.to, .int .i64 a.top, .bool a.cyc, .int .i64 a.scan, .int .i64 a.old, .int .i64 a.cop, .int .i64 a.ser, .slice r.a r.n r.c], .int .i64 b, .int .i64 n, .agg #[.int .i64 key.1, .int .i64 key.2]] m Q
  rw [e164]
  have n1 := hB.n1
  unfold findA at hQ
  refine newA_intro fun g1 m2 hg1 e2 hb1 hle2 => newA_intro fun g3 m4 hg3 e4 hb3 hle4 => ?_
  have hb1 := hle4 _ _ hb1
  have l4 := Mem.le_trans hle2 hle4
  rw [if_neg (by simp; omega)]
  refine ⟨_, cell_of hb3 0, ?_⟩
  by_cases c : key.1 = 0
  · rw [if_pos (by simpa using c)]
    rw [if_pos c] at hQ
    exact ret_intro l4 hQ
  rw [if_neg (by simpa using c)]
  rw [if_neg c] at hQ
  have hK := hK.resolve_left c
  have h0 := hash_nn hw hK
  refine ⟨_, _, _, cell_of hb1 0, _, cell_of hb1 1, _, cell_of hb1 2, _, cell_of hb1 3, _, cell_of hb1 4, _, cell_of hb1 5, _, cell_of hb1 6, _, cell_of hb1 7, _, cell_of hb1 8, _, _, _, cell_of hb1 9, _, cell_of hb3 0, _, cell_of hb3 1, via h221 ⟨s, r, a, key, rfl, hA.le l4, hw, hK, _, rfl, by omega, n.toNat + 1, ?_⟩⟩
  rw [Int.tmod_eq_emod_of_nonneg h0]
  exact loopF t h163 h222 (s := s) (r := r) hw hB hK hb1 (hA.le l4) hb3 (fun M hM => ret_intro (Mem.le_trans l4 hM) hQ) n.toNat 0 (by omega) _ (Int.emod_nonneg _ (by omega)) (Int.emod_lt_of_pos _ (by omega)) rfl m4 (Mem.le_refl _)
def s226 : Spec := fun args m Q => ∃ (g : Nat) (s r : Sl) (a : Ar) (b n : Int) (key : Vl), args = [.pointer (some ⟨g, 0, none⟩), .int .i64 b, vVl key] ∧ Ptr m g s r a ∧ ArAt m s r a ∧ a.sm ∧ a.wf ∧ BlkOk a b n ∧ n = (lookW a.ws b).2.1 / 4 ∧ KeyOk a key ∧ Q (.tuple #[.int .i64 (findA a.ws b n key).1, .bool (findA a.ws b n key).2]) m
theorem f226 (t : Tab) (h129 : look t 129 = s129) (h261 : look t 261 = s261) (h260 : look t 260 = s260) (h60 : look t 60 = s60) : ∀ args m Q, s226 args m Q → FA Tryz.prog (look t) kp226 Tryz.f226 args m Q := by
  rintro args m Q ⟨g, s, r, a, b, n, key, rfl, hP, hA, hsm, hw, hB, hn4, hK, hQ⟩
  show FA Tryz.prog (look t) kp226 Tryz.f226 [.pointer (some ⟨g, 0, none⟩), .int .i64 b, .agg #[.int .i64 key.1, .int .i64 key.2]] m Q
  rw [e226]
  have n1 := hB.n1
  have n2 := hB.n2
  have t0 := hK.t0
  have bn := hB.bn
  unfold findA at hQ
  rw [if_neg (by omega)] at hQ
  have h0 := hash_nn hw hK
  refine newA_intro fun g1 m2 hg1 e2 hb1 hle2 => via h60 ⟨g, s, r, a, b, rfl, ⟨hle2 _ _ hP, hA.le hle2, hw, hB.b0, by omega⟩, _, _, _, rfl, by decide, _, cell_of hb1 0, _, cell_of hb1 1, via h260 ⟨g, s, r, a, key, rfl, hle2 _ _ hP, hA.le hle2, hsm, hw, hK, _, rfl, ?_⟩⟩
  rw [Int.tdiv_eq_ediv_of_nonneg (by omega), ← hn4, w64 (x := n) (by omega) (by omega)]
  refine ⟨by omega, n.toNat + 1, ?_⟩
  rw [Int.tmod_eq_emod_of_nonneg h0]
  exact loopE t h129 h261 (s := s) (r := r) hw hsm hB hK (hle2 _ _ hP) (hA.le hle2) hb1 (fun M hM => ret_intro (Mem.le_trans hle2 hM) hQ) n.toNat 0 (by omega) _ (Int.emod_nonneg _ (by omega)) (Int.emod_lt_of_pos _ (by omega)) rfl m2 (Mem.le_refl _)
end Go.Proofs.YtjdcndicaeodbaaGreat.Abs
