/- Arenas: the slots of a kind. -/
import Derived.Test.YtpdcjocjkbgddaaGreatRd
namespace Go.Proofs.YtpdcjocjkbgddaaGreat.Abs
open Go.RowKit
set_option linter.unusedVariables false
set_option linter.unusedSimpArgs false
set_option maxRecDepth 20000
def fromK (k s : Int) : Int := if k = 2 ∨ k = 4 then 2 else if k = 3 ∨ k = 5 then 1 else if k = 6 then 5 else s + 1
def numK (f s : Int) : Nat := ((s - f + 1) / 2).toNat
def everyK (f : Int) (n : Nat) : List Int := (List.range n).map fun (j : Nat) => f + 2 * (j : Int)
def slotsL (k s : Int) : List Int := everyK (fromK k s) (numK (fromK k s) s)
theorem everyK_succ (f : Int) (n : Nat) : everyK f (n + 1) = everyK f n ++ [f + 2 * (n : Int)] := by simp [everyK, List.range_succ]
theorem everyK_len (f : Int) (n : Nat) : (everyK f n).length = n := by simp [everyK]
theorem slots_in {k s x : Int} (hk : sizeB k s = true) (hx : x ∈ slotsL k s) : 1 ≤ x ∧ x + 1 ≤ s := by
  unfold slotsL everyK at hx
  obtain ⟨j, hj, rfl⟩ := List.mem_map.1 hx
  rw [List.mem_range] at hj
  unfold numK at hj
  unfold fromK at *
  repeat' split at *
  all_goals omega
theorem loopS (t : Tab) {Q : Value → Mem → Prop} {sz f : Int} {m : Mem} (hz : 0 ≤ sz ∧ sz ≤ 65535) (hf : 1 ≤ f ∧ f ≤ 65536) (hQ : ∀ (s' : Sl) (M : Mem) (D : List Nat), Mem.le m M → OwnL M s' (everyK f (numK f sz)) D → (∀ b ∈ D, m b = none) → Q (vs s') M) :
    ∀ (d j : Nat), j + d = numK f sz → ∀ (s : Sl) (M : Mem) (D : List Nat), Mem.le m M → OwnL M s (everyK f j) D → (∀ b ∈ D, m b = none) → L93_18 (look t) (d + 1) Q sz s.a s.n s.c (f + 2 * (j : Int)) M ∧ L131_14 (look t) (d + 1) Q sz s.a s.n s.c (f + 2 * (j : Int)) M := by
  intro d
  induction d with
  | zero =>
    intro j hj s M D hle hO hD
    unfold numK at hj
    have c : ¬ f + 2 * (j : Int) < sz := by omega
    have w1 := w64 (x := f + 2 * (j : Int) + 1) (by omega) (by omega)
    have hN : j = numK f sz := by unfold numK; omega
    constructor
    · rw [l93_18]
      refine ⟨M, Mem.le_refl _, ?_⟩
      rw [w1, if_neg (by simp; omega)]
      exact ret_intro (Mem.le_refl _) (hQ s M D hle (hN ▸ hO) hD)
    · rw [l131_14]
      refine ⟨M, Mem.le_refl _, ?_⟩
      rw [if_neg (by simp; omega)]
      exact ret_intro (Mem.le_refl _) (hQ s M D hle (hN ▸ hO) hD)
  | succ d ih =>
    intro j hj s M D hle hO hD
    have hj2 : j + 1 + d = ((sz - f + 1) / 2).toNat := by unfold numK at hj; omega
    have c : f + 2 * (j : Int) < sz := by omega
    have w1 := w64 (x := f + 2 * (j : Int) + 1) (by omega) (by omega)
    have w2 : IntKind.i64.wrap (f + 2 * (j : Int) + 2) = f + 2 * ((j + 1 : Nat) : Int) := by rw [w64 (by omega) (by omega)]; omega
    have step : ∀ (K : Option Addr → Nat → Mem → Prop), (∀ (s' : Sl) (M' : Mem) (D' : List Nat), s'.n = s.n + 1 → Mem.le m M' → OwnL M' s' (everyK f (j + 1)) D' → (∀ b ∈ D', m b = none) → K s'.a s'.c M') →
        newA M (.cells #[.int .i64 (f + 2 * (j : Int))] 3 (0, 0)) fun g17 m18 => appR m18 s.a s.n s.c (some ⟨g17, 0, none⟩) 1 1 8 #[.int .i64 0] 3 K := by
      intro K hK
      refine newA_intro fun g m2 hg e hb hle2 => ?_
      refine app_sl (α := Int) (l := everyK f j) (l2 := [f + 2 * (j : Int)]) (D := D) rfl rfl (by decide) (by decide) (by decide) (hO.ext fun b hb' => ?_) rfl (Rd.of_block (spare := []) hb (by rfl)) (by rw [everyK_len]; show j + 1 ≤ 2 ^ 40; omega) fun s' D' M' hsn hO' hoff hfr hnd' => ?_
      · obtain ⟨o, ho⟩ := hO.live b hb'
        rw [ho, hle2 _ _ ho]
      · have hD' : ∀ b ∈ D', m b = none := by
          rcases hfr with rfl | hfr
          · exact hD
          · exact fun b hb' => le_none (Mem.le_trans hle hle2) (hfr b hb')
        refine hK s' M' D' hsn (le_off (Mem.le_trans hle hle2) hD' hoff) (by rw [everyK_succ]; exact hO') hD'
    constructor
    · rw [l93_18]
      refine ⟨M, Mem.le_refl _, ?_⟩
      rw [w1, if_pos (by simp; omega)]
      refine step _ fun s' M' D' hsn hle' hO' hD' => ?_
      rw [w2, ← hsn]
      exact (ih (j + 1) (by unfold numK; exact hj2) s' M' D' hle' hO' hD').1
    · rw [l131_14]
      refine ⟨M, Mem.le_refl _, ?_⟩
      rw [if_pos (by simp; omega)]
      refine step _ fun s' M' D' hsn hle' hO' hD' => ?_
      rw [w2, ← hsn]
      exact (ih (j + 1) (by unfold numK; exact hj2) s' M' D' hle' hO' hD').2
def s93 : Spec := fun args m Q => ∃ (k sz : Int), args = [.int .i64 k, .int .i64 sz] ∧ 0 ≤ sz ∧ sz ≤ 65535 ∧ sizeB k sz = true ∧ ∀ (s' : Sl) (M : Mem) (D : List Nat), Mem.le m M → OwnL M s' (slotsL k sz) D → (∀ b ∈ D, m b = none) → Q (vs s') M
def s131 : Spec := s93
theorem kinds {k s : Int} (h : sizeB k s = true) : k = 1 ∨ k = 2 ∨ k = 3 ∨ k = 4 ∨ k = 5 ∨ k = 6 := by
  unfold sizeB at h
  repeat' split at h
  all_goals first | omega | (simp at h)
theorem f131 (t : Tab) : ∀ args m Q, s131 args m Q → FA Tryz.prog (look t) kp131 Tryz.f131 args m Q := by
  rintro args m Q ⟨k, sz, rfl, h0, h1, hk, hQ⟩
  rw [e131]
  have hz : IntKind.i64.wrap (Int.tdiv sz 2) = sz / 2 := by rw [Int.tdiv_eq_ediv_of_nonneg h0, w64 (by omega) (by omega)]
  rw [hz]
  unfold slotsL fromK at hQ
  have main : ∀ f : Int, 1 ≤ f → f ≤ 65536 → (∀ (s' : Sl) (M : Mem) (D : List Nat), Mem.le m M → OwnL M s' (everyK f (numK f sz)) D → (∀ b ∈ D, m b = none) → Q (vs s') M) →
      ((2 : Int) ≠ 0 ∧ (0 ≤ (0 : Int) ∧ (0 : Int) ≤ sz / 2 ∧ sz / 2 * ((8 : Nat) : Int) ≤ 2 ^ 47 ∧ sz / 2 ≤ 2 ^ 47 ∧ newA m (.cells (zeroRow #[.int .i64 (0 : Int)] (Int.toNat (sz / 2) * 1)) 3 (0, 0)) fun g1 m2 => (∃ k3 : Nat, L131_14 (look t) k3 Q sz ((some ⟨g1, 0, none⟩)) ((Int.toNat (0 : Int))) ((Int.toNat (sz / 2))) f m2))) := by
    intro f f0 f1 hq
    refine ⟨by decide, by omega, by omega, by omega, by omega, newA_intro fun g m2 hg e hb hle => ⟨numK f sz + 1, ?_⟩⟩
    have hO : OwnL m2 ⟨some ⟨g, 0, none⟩, 0, (sz / 2).toNat⟩ (everyK f 0) [g] := by
      refine ⟨rfl, .inr ⟨g, 3, flat Enc.e (List.replicate (sz / 2).toNat (0 : Int)), rfl, rfl, ?_, ?_⟩⟩
      · rw [hb]
        have := zeroRow_eq (α := Int) 0 (sz / 2).toNat
        exact congrArg some (congrArg (fun c => Obj.cells c 3 (0, 0)) this)
      · rw [flat_len]; simp [everyK]
    have := (loopS t (m := m) ⟨h0, h1⟩ ⟨f0, f1⟩ hq (numK f sz) 0 (by omega) ⟨some ⟨g, 0, none⟩, 0, (sz / 2).toNat⟩ m2 [g] hle hO (by simpa using hg)).2
    simpa using this
  rcases kinds hk with rfl | rfl | rfl | rfl | rfl | rfl
  · iterate 5 rw [if_neg (by decide)]
    rw [if_neg (by decide), if_neg (by decide), if_neg (by decide)] at hQ
    have e0 : numK (sz + 1) sz = 0 := by unfold numK; omega
    exact ret_intro (Mem.le_refl _) (hQ ⟨none, 0, 0⟩ m [] (Mem.le_refl _) ⟨by simp [everyK, e0], .inl ⟨rfl, rfl, by rw [e0]; rfl, rfl⟩⟩ (by simp))
  · rw [if_pos (by decide)]
    exact main 2 (by omega) (by omega) hQ
  · iterate 2 rw [if_neg (by decide)]
    rw [if_pos (by decide)]
    exact main 1 (by omega) (by omega) hQ
  · iterate 1 rw [if_neg (by decide)]
    rw [if_pos (by decide)]
    exact main 2 (by omega) (by omega) hQ
  · iterate 3 rw [if_neg (by decide)]
    rw [if_pos (by decide)]
    exact main 1 (by omega) (by omega) hQ
  · iterate 4 rw [if_neg (by decide)]
    rw [if_pos (by decide)]
    exact main 5 (by omega) (by omega) hQ
theorem f93 (t : Tab) (h118 : look t 118 = s118) : ∀ args m Q, s93 args m Q → FA Tryz.prog (look t) kp93 Tryz.f93 args m Q := by
  rintro args m Q ⟨k, sz, rfl, h0, h1, hk, hQ⟩
  rw [e93]
  unfold slotsL fromK at hQ
  refine newA_intro fun g1 m2 hg1 e2 hb1 hle2 => newA_intro fun g3 m4 hg3 e4 hb3 hle4 => ?_
  refine sto (c := #[.int .i64 0, .int .i64 0, .int .i64 0]) (t := 72) hb3 rfl (by simp) fun m5 e5 h5 hne5 => ?_
  have h5 : m5 g3 = some (.cells #[.int .i64 k, .int .i64 sz, .int .i64 0] 72 (0, 0)) := h5
  have n13 : g1 ≠ g3 := ne_of_none hg3 hb1
  have b1 : m5 g1 = some (.cells #[] 3 (0, 0)) := by rw [hne5 _ n13]; exact hle4 _ _ hb1
  have hg3' : m g3 = none := le_none hle2 hg3
  have l5 : Mem.le m m5 := le_other (Mem.le_trans hle2 hle4) hg3' hne5
  have main : ∀ f : Int, 1 ≤ f → f ≤ 65536 → (∀ (s' : Sl) (M : Mem) (D : List Nat), Mem.le m M → OwnL M s' (everyK f (numK f sz)) D → (∀ b ∈ D, m b = none) → Q (vs s') M) →
      ∀ M : Mem, Mem.le m M → M g1 = some (.cells #[] 3 (0, 0)) → (∃ k3 : Nat, L93_18 (look t) k3 Q sz ((some ⟨g1, 0, none⟩)) 0 0 f M) := by
    intro f f0 f1 hq M hM hb
    have hO : OwnL M ⟨some ⟨g1, 0, none⟩, 0, 0⟩ (everyK f 0) [g1] := ⟨rfl, .inr ⟨g1, 3, [], rfl, rfl, hb, rfl⟩⟩
    have := (loopS t (m := m) ⟨h0, h1⟩ ⟨f0, f1⟩ hq (numK f sz) 0 (by omega) ⟨some ⟨g1, 0, none⟩, 0, 0⟩ M [g1] hM hO (by simpa using hg1)).1
    exact ⟨_, by simpa using this⟩
  rcases kinds hk with rfl | rfl | rfl | rfl | rfl | rfl
  · have hh : hdOk 1 sz 0 = true := by unfold hdOk; rw [hk]; decide
    iterate 3 rw [if_neg (by decide)]
    refine ⟨_, cell_of h5 0, _, cell_of h5 1, _, cell_of h5 2, via h118 ⟨_, _, _, rfl, h0, _, rfl, ?_⟩⟩
    rw [hh, if_neg (by decide)]
    iterate 5 rw [if_neg (by decide)]
    rw [w64 (x := sz + 1) (by omega) (by omega)]
    exact main (sz + 1) (by omega) (by omega) hQ _ l5 b1
  · have hh : hdOk 2 sz 1 = true := by unfold hdOk; rw [hk]; decide
    rw [if_pos (by decide)]
    refine sto (c := #[.int .i64 2, .int .i64 sz, .int .i64 0]) (t := 72) h5 rfl (by simp) fun m6 e6 h6 hne6 => ?_
    have h6 : m6 g3 = some (.cells #[.int .i64 2, .int .i64 sz, .int .i64 1] 72 (0, 0)) := h6
    have b6 : m6 g1 = some (.cells #[] 3 (0, 0)) := by rw [hne6 _ n13]; exact b1
    have l6 : Mem.le m m6 := le_other l5 hg3' hne6
    refine ⟨_, cell_of h6 0, _, cell_of h6 1, _, cell_of h6 2, via h118 ⟨_, _, _, rfl, h0, _, rfl, ?_⟩⟩
    rw [hh, if_neg (by decide)]
    rw [if_pos (by decide)]
    exact main (2) (by omega) (by omega) hQ _ l6 b6
  · have hh : hdOk 3 sz 0 = true := by unfold hdOk; rw [hk]; decide
    iterate 3 rw [if_neg (by decide)]
    refine ⟨_, cell_of h5 0, _, cell_of h5 1, _, cell_of h5 2, via h118 ⟨_, _, _, rfl, h0, _, rfl, ?_⟩⟩
    rw [hh, if_neg (by decide)]
    iterate 2 rw [if_neg (by decide)]
    rw [if_pos (by decide)]
    exact main (1) (by omega) (by omega) hQ _ l5 b1
  · have hh : hdOk 4 sz 1 = true := by unfold hdOk; rw [hk]; decide
    iterate 1 rw [if_neg (by decide)]
    rw [if_pos (by decide)]
    refine sto (c := #[.int .i64 4, .int .i64 sz, .int .i64 0]) (t := 72) h5 rfl (by simp) fun m6 e6 h6 hne6 => ?_
    have h6 : m6 g3 = some (.cells #[.int .i64 4, .int .i64 sz, .int .i64 1] 72 (0, 0)) := h6
    have b6 : m6 g1 = some (.cells #[] 3 (0, 0)) := by rw [hne6 _ n13]; exact b1
    have l6 : Mem.le m m6 := le_other l5 hg3' hne6
    refine ⟨_, cell_of h6 0, _, cell_of h6 1, _, cell_of h6 2, via h118 ⟨_, _, _, rfl, h0, _, rfl, ?_⟩⟩
    rw [hh, if_neg (by decide)]
    iterate 1 rw [if_neg (by decide)]
    rw [if_pos (by decide)]
    exact main (2) (by omega) (by omega) hQ _ l6 b6
  · have hh : hdOk 5 sz 0 = true := by unfold hdOk; rw [hk]; decide
    iterate 3 rw [if_neg (by decide)]
    refine ⟨_, cell_of h5 0, _, cell_of h5 1, _, cell_of h5 2, via h118 ⟨_, _, _, rfl, h0, _, rfl, ?_⟩⟩
    rw [hh, if_neg (by decide)]
    iterate 3 rw [if_neg (by decide)]
    rw [if_pos (by decide)]
    exact main (1) (by omega) (by omega) hQ _ l5 b1
  · have hh : hdOk 6 sz 1 = true := by unfold hdOk; rw [hk]; decide
    iterate 2 rw [if_neg (by decide)]
    rw [if_pos (by decide)]
    refine sto (c := #[.int .i64 6, .int .i64 sz, .int .i64 0]) (t := 72) h5 rfl (by simp) fun m6 e6 h6 hne6 => ?_
    have h6 : m6 g3 = some (.cells #[.int .i64 6, .int .i64 sz, .int .i64 1] 72 (0, 0)) := h6
    have b6 : m6 g1 = some (.cells #[] 3 (0, 0)) := by rw [hne6 _ n13]; exact b1
    have l6 : Mem.le m m6 := le_other l5 hg3' hne6
    refine ⟨_, cell_of h6 0, _, cell_of h6 1, _, cell_of h6 2, via h118 ⟨_, _, _, rfl, h0, _, rfl, ?_⟩⟩
    rw [hh, if_neg (by decide)]
    iterate 4 rw [if_neg (by decide)]
    rw [if_pos (by decide)]
    exact main (5) (by omega) (by omega) hQ _ l6 b6
end Go.Proofs.YtpdcjocjkbgddaaGreat.Abs
