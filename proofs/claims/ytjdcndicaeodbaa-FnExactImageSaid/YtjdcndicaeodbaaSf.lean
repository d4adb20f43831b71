/- Arenas: images: words and bytes. -/
import Derived.Test.YtjdcndicaeodbaaRy
namespace Go.Proofs.Ytjdcndicaeodbaa.Abs
open Go.RowKit
set_option linter.unusedVariables false
set_option linter.unusedSimpArgs false
set_option maxRecDepth 20000
/-- One more in a row of one's own (U64). -/
theorem app_u64 {m M : Mem} {s : Sl} {l : List U64} {D : List Nat} {x : Int} {K : Option Addr → Nat → Mem → Prop} (hle : Mem.le m M) (hO : OwnL M s l D) (hD : ∀ b ∈ D, m b = none) (hl : l.length ≤ 2 ^ 30)
    (hK : ∀ (s' : Sl) (M' : Mem) (D' : List Nat), s'.n = s.n + 1 → Mem.le m M' → OwnL M' s' (l ++ [⟨x⟩]) D' → (∀ b ∈ D', m b = none) → K s'.a s'.c M') :
    newA M (.cells #[.int .u64 x] 65 (0, 0)) fun g17 m18 => appR m18 s.a s.n s.c (some ⟨g17, 0, none⟩) 1 1 8 #[.int .u64 0] 65 K := by
  refine newA_intro fun g m2 hg e hb hle2 => ?_
  refine app_sl (α := U64) (l := l) (l2 := [⟨x⟩]) (D := D) rfl rfl (by decide) (by decide) (by decide) (hO.ext fun b hb' => ?_) rfl (Rd.of_block (spare := []) hb (by rfl)) (by show l.length + 1 ≤ 2 ^ 40; omega) fun s' D' M' hsn hO' hoff hfr hnd' => ?_
  · obtain ⟨o, ho⟩ := hO.live b hb'
    rw [ho, hle2 _ _ ho]
  · have hD' : ∀ b ∈ D', m b = none := by
      rcases hfr with rfl | hfr
      · exact hD
      · exact fun b hb' => le_none (Mem.le_trans hle hle2) (hfr b hb')
    exact hK s' M' D' hsn (le_off (Mem.le_trans hle hle2) hD' hoff) hO' hD'
/-- One more in a row of one's own (U8). -/
theorem app_u8 {m M : Mem} {s : Sl} {l : List U8} {D : List Nat} {x : Int} {K : Option Addr → Nat → Mem → Prop} (hle : Mem.le m M) (hO : OwnL M s l D) (hD : ∀ b ∈ D, m b = none) (hl : l.length ≤ 2 ^ 30)
    (hK : ∀ (s' : Sl) (M' : Mem) (D' : List Nat), s'.n = s.n + 1 → Mem.le m M' → OwnL M' s' (l ++ [⟨x⟩]) D' → (∀ b ∈ D', m b = none) → K s'.a s'.c M') :
    newA M (.cells #[.int .u8 x] 5 (0, 0)) fun g17 m18 => appR m18 s.a s.n s.c (some ⟨g17, 0, none⟩) 1 1 1 #[.int .u8 0] 5 K := by
  refine newA_intro fun g m2 hg e hb hle2 => ?_
  refine app_sl (α := U8) (l := l) (l2 := [⟨x⟩]) (D := D) rfl rfl (by decide) (by decide) (by decide) (hO.ext fun b hb' => ?_) rfl (Rd.of_block (spare := []) hb (by rfl)) (by show l.length + 1 ≤ 2 ^ 40; omega) fun s' D' M' hsn hO' hoff hfr hnd' => ?_
  · obtain ⟨o, ho⟩ := hO.live b hb'
    rw [ho, hle2 _ _ ho]
  · have hD' : ∀ b ∈ D', m b = none := by
      rcases hfr with rfl | hfr
      · exact hD
      · exact fun b hb' => le_none (Mem.le_trans hle hle2) (hfr b hb')
    exact hK s' M' D' hsn (le_off (Mem.le_trans hle hle2) hD' hoff) hO' hD'
theorem app_u64b {m M2 : Mem} {s : Sl} {l : List U64} {D : List Nat} {x y : Int} {g : Nat} {ty : TypeId} {K : Option Addr → Nat → Mem → Prop} (hle : Mem.le m M2) (hO : OwnL M2 s l D) (hD : ∀ b ∈ D, m b = none) (hl : l.length ≤ 2 ^ 30) (hb : M2 g = some (.cells #[.int .u64 x, .int .u64 y] ty (0, 0)))
    (hK : ∀ (s' : Sl) (M' : Mem) (D' : List Nat), s'.n = s.n + 2 → Mem.le m M' → OwnL M' s' (l ++ [⟨x⟩, ⟨y⟩]) D' → (∀ b ∈ D', m b = none) → K s'.a s'.c M') :
    appR M2 s.a s.n s.c (some ⟨g, 0, none⟩) 2 1 8 #[.int .u64 0] 65 K := by
  refine app_sl (α := U64) (l := l) (l2 := [⟨x⟩, ⟨y⟩]) (D := D) rfl rfl (by decide) (by decide) (by decide) hO rfl (Rd.of_block (spare := []) hb (by rfl)) (by show l.length + 2 ≤ 2 ^ 40; omega) fun s' D' M' hsn hO' hoff hfr hnd' => ?_
  have hD' : ∀ b ∈ D', m b = none := by
    rcases hfr with rfl | hfr
    · exact hD
    · exact fun b hb' => le_none hle (hfr b hb')
  exact hK s' M' D' hsn (le_off hle hD' hoff) hO' hD'
/-- A piece of a row. -/
def seg (ws : List U64) (lo hi : Int) : List U64 := (ws.drop lo.toNat).take (hi.toNat - lo.toNat)
theorem seg_len {ws : List U64} {lo hi : Int} (h0 : 0 ≤ lo) (h1 : lo ≤ hi) (h2 : hi ≤ ws.length) : (seg ws lo hi).length = hi.toNat - lo.toNat := by
  unfold seg
  rw [List.length_take, List.length_drop]
  omega
theorem app_seg {m M : Mem} {s ss : Sl} {l ws : List U64} {D : List Nat} {lo hi : Int} {K : Option Addr → Nat → Mem → Prop} (hle : Mem.le m M) (hO : OwnL M s l D) (hD : ∀ b ∈ D, m b = none) (hl : l.length ≤ 2 ^ 30) (h0 : 0 ≤ lo) (h1 : lo ≤ hi) (h2 : hi ≤ ws.length) (hn : ws.length ≤ 2 ^ 20) (hw : Rd M ss.a ws) (hc : ws.length ≤ ss.c)
    (hK : ∀ (s' : Sl) (M' : Mem) (D' : List Nat), s'.n = s.n + (hi.toNat - lo.toNat) → Mem.le m M' → OwnL M' s' (l ++ seg ws lo hi) D' → (∀ b ∈ D', m b = none) → K s'.a s'.c M') :
    appR M s.a s.n s.c (if ss.c = lo.toNat then ss.a else Option.map (·.add (lo.toNat * 1)) ss.a) (hi.toNat - lo.toNat) 1 8 #[.int .u64 0] 65 K := by
  have hl2 := seg_len h0 h1 h2
  have hr : Rd M (if ss.c = lo.toNat then ss.a else Option.map (·.add (lo.toNat * 1)) ss.a) (seg ws lo hi) := by
    by_cases c : ss.c = lo.toNat
    · rw [if_pos c]
      have e : seg ws lo hi = [] := List.length_eq_zero_iff.1 (by rw [hl2]; omega)
      rw [e]
      exact Rd.nil
    · rw [if_neg c]
      exact (hw.drop lo.toNat).take _
  refine app_sl (α := U64) (l := l) (l2 := seg ws lo hi) (D := D) rfl rfl (by decide) (by decide) (by decide) hO hl2 hr (by omega) fun s' D' M' hsn hO' hoff hfr hnd' => ?_
  have hD' : ∀ b ∈ D', m b = none := by
    rcases hfr with rfl | hfr
    · exact hD
    · exact fun b hb' => le_none hle (hfr b hb')
  exact hK s' M' D' hsn (le_off hle hD' hoff) hO' hD'
/-- The bytes of a word, the lowest first. -/
def byt (w : Int) (i : Nat) : U8 := ⟨IntKind.u8.wrap (Int.fdiv w (2 ^ min (Int.toNat (8 * (i : Int))) (IntKind.bits .u64)))⟩
def byts (w : Int) (n : Nat) : List U8 := (List.range n).map (byt w)
theorem byts_succ (w : Int) (n : Nat) : byts w (n + 1) = byts w n ++ [byt w n] := by simp [byts, List.range_succ]
theorem byts_len (w : Int) (n : Nat) : (byts w n).length = n := by simp [byts]
def s42 : Spec := fun args m Q => ∃ (s : Sl) (l : List U8) (w : Int) (D : List Nat) (m0 : Mem), args = [vs s, .int .u64 w] ∧ Mem.le m0 m ∧ OwnL m s l D ∧ (∀ b ∈ D, m0 b = none) ∧ l.length ≤ 2 ^ 29 ∧
  ∀ (s' : Sl) (M : Mem) (D' : List Nat), Mem.le m0 M → OwnL M s' (l ++ byts w 8) D' → (∀ b ∈ D', m0 b = none) → Q (vs s') M
def s73 : Spec := s42
theorem f42 (t : Tab) : ∀ args m Q, s42 args m Q → FA Try.prog (look t) kp42 Try.f42 args m Q := by
  rintro args m Q ⟨s, l, w, D, m0, rfl, hle, hO, hD, hl, hQ⟩
  show FA Try.prog (look t) kp42 Try.f42 [.slice s.a s.n s.c, .int .u64 w] m Q
  rw [e42]
  suffices key : ∀ (d i : Nat), i + d = 8 → ∀ (s : Sl) (D : List Nat) (M : Mem), Mem.le m0 M → OwnL M s (l ++ byts w i) D → (∀ b ∈ D, m0 b = none) → L42_2 (look t) (d + 1) Q s.a s.n s.c w (i : Int) M from
    ⟨9, key 8 0 rfl s D m hle (by simpa [byts] using hO) hD⟩
  intro d
  induction d with
  | zero =>
    intro i hi s D M hle hO hD
    rw [l42_2]
    refine ⟨M, Mem.le_refl _, ?_⟩
    rw [if_neg (by simp; omega)]
    have e : i = 8 := by omega
    subst e
    exact ret_intro (Mem.le_refl _) (hQ s M D hle hO hD)
  | succ d ih =>
    intro i hi s D M hle hO hD
    rw [l42_2]
    refine ⟨M, Mem.le_refl _, ?_⟩
    rw [if_pos (by simp; omega)]
    rw [w64 (x := 8 * (i : Int)) (by omega) (by omega), u64w (x := 8 * (i : Int)) (by omega) (by omega), wsucc (n := 8) (by omega) (by decide)]
    refine ⟨by omega, app_u8 (x := IntKind.u8.wrap (Int.fdiv w (2 ^ min (Int.toNat (8 * (i : Int))) (IntKind.bits .u64)))) hle hO hD (by rw [List.length_append, byts_len]; omega) fun s' M' D' hsn hle' hO' hD' => ?_⟩
    rw [← hsn]
    exact ih (i + 1) (by omega) s' D' M' hle' (by rw [byts_succ, ← List.append_assoc]; exact hO') hD'
theorem f73 (t : Tab) : ∀ args m Q, s73 args m Q → FA Try.prog (look t) kp73 Try.f73 args m Q := by
  rintro args m Q ⟨s, l, w, D, m0, rfl, hle, hO, hD, hl, hQ⟩
  show FA Try.prog (look t) kp73 Try.f73 [.slice s.a s.n s.c, .int .u64 w] m Q
  rw [e73]
  suffices key : ∀ (d i : Nat), i + d = 8 → ∀ (s : Sl) (D : List Nat) (M : Mem), Mem.le m0 M → OwnL M s (l ++ byts w i) D → (∀ b ∈ D, m0 b = none) → L73_2 (look t) (d + 1) Q s.a s.n s.c w (i : Int) M from
    ⟨9, key 8 0 rfl s D m hle (by simpa [byts] using hO) hD⟩
  intro d
  induction d with
  | zero =>
    intro i hi s D M hle hO hD
    rw [l73_2]
    refine ⟨M, Mem.le_refl _, ?_⟩
    rw [if_neg (by simp; omega)]
    have e : i = 8 := by omega
    subst e
    exact ret_intro (Mem.le_refl _) (hQ s M D hle hO hD)
  | succ d ih =>
    intro i hi s D M hle hO hD
    rw [l73_2]
    refine ⟨M, Mem.le_refl _, ?_⟩
    rw [if_pos (by simp; omega)]
    rw [w64 (x := 8 * (i : Int)) (by omega) (by omega), wsucc (n := 8) (by omega) (by decide)]
    refine ⟨by omega, app_u8 (x := IntKind.u8.wrap (Int.fdiv w (2 ^ min (Int.toNat (8 * (i : Int))) (IntKind.bits .u64)))) hle hO hD (by rw [List.length_append, byts_len]; omega) fun s' M' D' hsn hle' hO' hD' => ?_⟩
    rw [← hsn]
    exact ih (i + 1) (by omega) s' D' M' hle' (by rw [byts_succ, ← List.append_assoc]; exact hO') hD'
end Go.Proofs.Ytjdcndicaeodbaa.Abs
