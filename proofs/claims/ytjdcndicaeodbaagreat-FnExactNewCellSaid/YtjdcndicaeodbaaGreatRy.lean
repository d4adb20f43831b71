/- Arenas: the objects of the half in use, and the census: the functions. -/
import Derived.Test.YtjdcndicaeodbaaGreatRx
namespace Go.Proofs.YtjdcndicaeodbaaGreat.Abs
open Go.RowKit
set_option linter.unusedVariables false
set_option linter.unusedSimpArgs false
set_option maxRecDepth 20000
/-- One number more in a row of one's own. -/
theorem app_int {m M : Mem} {s : Sl} {l : List Int} {D : List Nat} {x : Int} {K : Option Addr → Nat → Mem → Prop} (hle : Mem.le m M) (hO : OwnL M s l D) (hD : ∀ b ∈ D, m b = none) (hl : l.length ≤ 2 ^ 30)
    (hK : ∀ (s' : Sl) (M' : Mem) (D' : List Nat), s'.n = s.n + 1 → Mem.le m M' → OwnL M' s' (l ++ [x]) D' → (∀ b ∈ D', m b = none) → K s'.a s'.c M') :
    newA M (.cells #[.int .i64 x] 3 (0, 0)) fun g17 m18 => appR m18 s.a s.n s.c (some ⟨g17, 0, none⟩) 1 1 8 #[.int .i64 0] 3 K := by
  refine newA_intro fun g m2 hg e hb hle2 => ?_
  refine app_sl (α := Int) (l := l) (l2 := [x]) (D := D) rfl rfl (by decide) (by decide) (by decide) (hO.ext fun b hb' => ?_) rfl (Rd.of_block (spare := []) hb (by rfl)) (by show l.length + 1 ≤ 2 ^ 40; omega) fun s' D' M' hsn hO' hoff hfr hnd' => ?_
  · obtain ⟨o, ho⟩ := hO.live b hb'
    rw [ho, hle2 _ _ ho]
  · have hD' : ∀ b ∈ D', m b = none := by
      rcases hfr with rfl | hfr
      · exact hD
      · exact fun b hb' => le_none (Mem.le_trans hle hle2) (hfr b hb')
    exact hK s' M' D' hsn (le_off (Mem.le_trans hle hle2) hD' hoff) hO' hD'
theorem own_nd {α : Type} [Enc α] {m : Mem} {s : Sl} {l : List α} {D : List Nat} (h : OwnL m s l D) : D.Nodup := by
  obtain ⟨_, ⟨_, _, _, h⟩ | ⟨g, t, spare, _, h, _⟩⟩ := h
  · rw [h]; exact List.nodup_nil
  · rw [h]; simp
theorem objs_loopS (t : Tab) (h55 : look t 55 = s55) {Q : Value → Mem → Prop} {s r : Sl} {a : Ar} {m : Mem} {g : Nat} (hw : a.wf) (hP : Ptr m g s r a) (hA : ArAt m s r a) (htop : a.top ≤ a.ws.length) {R : List Int} (hQ : ∀ (s' : Sl) (M : Mem) (D : List Nat), Mem.le m M → OwnL M s' R D → (∀ b ∈ D, m b = none) → ret Q (vs s') M) :
    ∀ (f : Nat) (p : Int) (acc : List Int) (hs : Sl) (D : List Nat) (M : Mem), 0 ≤ p → a.top - p ≤ f → acc.length ≤ p → acc ++ objsF a (f + 1) p = R → Mem.le m M → OwnL M hs acc D → (∀ b ∈ D, m b = none) → p ≤ 2 ^ 22 → L45_5 (look t) (f + 1) Q g hs.a hs.n hs.c p M := by
  intro f
  have hN := hw.n
  induction f with
  | zero =>
    intro p acc hs D M p0 hf hl hR hle hO hD hp
    have hb1 := hle _ _ hP
    unfold objsF at hR
    rw [l45_5]
    refine ⟨M, Mem.le_refl _, _, cell_of hb1 3, ?_⟩
    rw [if_neg (by simp; omega)]
    rw [if_neg (by omega), List.append_nil] at hR
    exact hQ hs M D hle (hR ▸ hO) hD
  | succ f ih =>
    intro p acc hs D M p0 hf hl hR hle hO hD hp
    have hb1 := hle _ _ hP
    unfold objsF at hR
    rw [l45_5]
    refine ⟨M, Mem.le_refl _, _, cell_of hb1 3, ?_⟩
    by_cases c : p < a.top
    · rw [if_pos (by simpa using c)]
      rw [if_pos c] at hR
      have b := look_b hw p
      refine app_int hle hO hD (by omega) fun s' M' D' hsn hle' hO' hD' => ?_
      have hb1 := hle' _ _ hP
      refine ⟨_, _, _, cell_of hb1 0, _, cell_of hb1 1, _, cell_of hb1 2, _, cell_of hb1 3, _, cell_of hb1 4, _, cell_of hb1 5, _, cell_of hb1 6, _, cell_of hb1 7, _, cell_of hb1 8, _, _, _, cell_of hb1 9, via h55 ⟨s, r, a, p, rfl, ⟨hA.le hle', hw, p0, by omega⟩, _, _, _, rfl, ?_⟩⟩
      have e : (lookW a.ws p).2.1 = szW a.ws p := rfl
      rw [e, w64 (x := p + szW a.ws p) (by omega) (by omega), w64 (x := p + szW a.ws p + 1) (by omega) (by omega), ← hsn]
      exact ih _ _ s' D' M' (by omega) (by omega) (by rw [List.length_append]; show ((acc.length + 1 : Nat) : Int) ≤ _; omega) (by rw [List.append_assoc]; exact hR) hle' hO' hD' (by omega)
    · rw [if_neg (by simpa using c)]
      rw [if_neg c, List.append_nil] at hR
      exact hQ hs M D hle (hR ▸ hO) hD
theorem objs_loopI (t : Tab) (h60 : look t 60 = s60) {Q : Value → Mem → Prop} {s r : Sl} {a : Ar} {m : Mem} {g : Nat} (hw : a.wf) (hP : Ptr m g s r a) (hA : ArAt m s r a) (htop : a.top ≤ a.ws.length) {R : List Int} (hQ : ∀ (s' : Sl) (M : Mem) (D : List Nat), Mem.le m M → OwnL M s' R D → (∀ b ∈ D, m b = none) → ret Q (vs s') M) :
    ∀ (f : Nat) (p : Int) (acc : List Int) (hs : Sl) (D : List Nat) (M : Mem), 0 ≤ p → a.top - p ≤ f → acc.length ≤ p → acc ++ objsF a (f + 1) p = R → Mem.le m M → OwnL M hs acc D → (∀ b ∈ D, m b = none) → p ≤ 2 ^ 22 → L98_3 (look t) (f + 1) Q g hs.a hs.n hs.c p M := by
  intro f
  have hN := hw.n
  induction f with
  | zero =>
    intro p acc hs D M p0 hf hl hR hle hO hD hp
    have hb1 := hle _ _ hP
    unfold objsF at hR
    rw [l98_3]
    refine ⟨M, Mem.le_refl _, _, cell_of hb1 3, ?_⟩
    rw [if_neg (by simp; omega)]
    rw [if_neg (by omega), List.append_nil] at hR
    exact hQ hs M D hle (hR ▸ hO) hD
  | succ f ih =>
    intro p acc hs D M p0 hf hl hR hle hO hD hp
    have hb1 := hle _ _ hP
    unfold objsF at hR
    rw [l98_3]
    refine ⟨M, Mem.le_refl _, _, cell_of hb1 3, ?_⟩
    by_cases c : p < a.top
    · rw [if_pos (by simpa using c)]
      rw [if_pos c] at hR
      have b := look_b hw p
      refine app_int hle hO hD (by omega) fun s' M' D' hsn hle' hO' hD' => ?_
      have hb1 := hle' _ _ hP
      refine via h60 ⟨g, s, r, a, p, rfl, ⟨hb1, hA.le hle', hw, p0, by omega⟩, _, _, _, rfl, ?_⟩
      have e : (lookW a.ws p).2.1 = szW a.ws p := rfl
      rw [e, w64 (x := szW a.ws p + 1) (by omega) (by omega), w64 (x := p + (szW a.ws p + 1)) (by omega) (by omega), show p + (szW a.ws p + 1) = p + szW a.ws p + 1 by omega, ← hsn]
      exact ih _ _ s' D' M' (by omega) (by omega) (by rw [List.length_append]; show ((acc.length + 1 : Nat) : Int) ≤ _; omega) (by rw [List.append_assoc]; exact hR) hle' hO' hD' (by omega)
    · rw [if_neg (by simpa using c)]
      rw [if_neg c, List.append_nil] at hR
      exact hQ hs M D hle (hR ▸ hO) hD
open Classical in
noncomputable def objsA (a : Ar) : List Int := if okP a then objsL a else []
open Classical in
noncomputable def cenA (a : Ar) : List Int := if okP a then cenL a else []
def s45 : Spec := fun args m Q => ∃ (s r : Sl) (a : Ar), args = [vA s r a] ∧ ArAt m s r a ∧ a.wf ∧ ∀ (s' : Sl) (M : Mem) (D : List Nat), Mem.le m M → OwnL M s' (objsA a) D → (∀ b ∈ D, m b = none) → Q (vs s') M
theorem f45 (t : Tab) (h38 : look t 38 = s38) (h68 : look t 68 = s68) (h55 : look t 55 = s55) : ∀ args m Q, s45 args m Q → FA Tryz.prog (look t) kp45 Tryz.f45 args m Q := by
  rintro args m Q ⟨s, r, a, rfl, hA, hw, hQ⟩
  show FA Tryz.prog (look t) kp45 Tryz.f45 [.agg #[.slice s.a s.n s.c, .int .i64 a.semi, .int .i64 a.to, .int .i64 a.top, .bool a.cyc, .int .i64 a.scan, .int .i64 a.old, .int .i64 a.cop, .int .i64 a.ser, .slice r.a r.n r.c]] m Q
  rw [e45]
  have hN := hw.n
  refine newA_intro fun g m2 hg1 e2 hb1 hle2 => newA_intro fun g3 m4 hg3 e4 hb3 hle4 => ?_
  have hP : Ptr m2 g s r a := hb1
  have hb1 := hle4 _ _ hb1
  have l4 := Mem.le_trans hle2 hle4
  have ho : OwnL m4 ⟨some ⟨g3, 0, none⟩, 0, 0⟩ ([] : List Int) [g3] := ⟨rfl, .inr ⟨g3, 3, [], rfl, rfl, hb3, rfl⟩⟩
  have hf3 : ∀ b ∈ [g3], m2 b = none := fun b hb => by rw [List.mem_singleton] at hb; rw [hb]; exact hg3
  refine ⟨_, _, _, cell_of hb1 0, _, cell_of hb1 1, _, cell_of hb1 2, _, cell_of hb1 3, _, cell_of hb1 4, _, cell_of hb1 5, _, cell_of hb1 6, _, cell_of hb1 7, _, cell_of hb1 8, _, _, _, cell_of hb1 9, via h38 ⟨s, r, a, rfl, hA.le l4, hw, _, rfl, ?_⟩⟩
  by_cases hk : okP a
  case neg =>
    rw [pB_no hk, if_pos (by decide)]
    have e : objsA a = [] := by unfold objsA; rw [if_neg hk]
    exact ret_intro (Mem.le_refl _) (hQ ⟨some ⟨g3, 0, none⟩, 0, 0⟩ m4 [g3] l4 (e ▸ ho) fun b hb => le_none hle2 (hf3 b hb))
  rw [pB_yes hk, if_neg (by decide)]
  have e : objsA a = objsL a := by unfold objsA; rw [if_pos hk]
  obtain ⟨mk, hk⟩ := hk
  have hh := halves hk.N
  have hsm := hk.N.sm
  have := hsm.t0
  have := hsm.t1
  have := hsm.s0
  refine ⟨_, _, _, cell_of hb1 0, _, cell_of hb1 1, _, cell_of hb1 2, _, cell_of hb1 3, _, cell_of hb1 4, _, cell_of hb1 5, _, cell_of hb1 6, _, cell_of hb1 7, _, cell_of hb1 8, _, _, _, cell_of hb1 9, _, cell_of hb1 2, via h68 ⟨s, r, a, _, rfl, by omega, by omega, by omega, hsm.s1, _, rfl, a.ws.length + 1, ?_⟩⟩
  exact objs_loopS t h55 hw hP (hA.le hle2) (by omega) (R := objsA a) (fun s' M D hle hO hD => ret_intro (Mem.le_refl _) (hQ s' M D (Mem.le_trans hle2 hle) hO fun b hb => le_none hle2 (hD b hb))) a.ws.length _ [] ⟨some ⟨g3, 0, none⟩, 0, 0⟩ [g3] m4 (by omega) (by omega) (by show ((0 : Nat) : Int) ≤ _; omega) (by rw [e]; rfl) hle4 ho hf3 (by omega)
def s98 : Spec := fun args m Q => ∃ (g : Nat) (s r : Sl) (a : Ar), args = [.pointer (some ⟨g, 0, none⟩)] ∧ Ptr m g s r a ∧ ArAt m s r a ∧ a.wf ∧ NumP a ∧ ∀ (s' : Sl) (M : Mem) (D : List Nat), Mem.le m M → OwnL M s' (objsL a) D → (∀ b ∈ D, m b = none) → Q (vs s') M
theorem f98 (t : Tab) (h73 : look t 73 = s73) (h60 : look t 60 = s60) : ∀ args m Q, s98 args m Q → FA Tryz.prog (look t) kp98 Tryz.f98 args m Q := by
  rintro args m Q ⟨g, s, r, a, rfl, hP, hA, hw, hk, hQ⟩
  rw [e98]
  have hN := hw.n
  have hh := halves hk
  have hsm := hk.sm
  have := hsm.t0
  have := hsm.t1
  have := hsm.s0
  refine newA_intro fun g3 m4 hg3 e4 hb3 hle4 => ?_
  have ho : OwnL m4 ⟨some ⟨g3, 0, none⟩, 0, 0⟩ ([] : List Int) [g3] := ⟨rfl, .inr ⟨g3, 3, [], rfl, rfl, hb3, rfl⟩⟩
  have hf3 : ∀ b ∈ [g3], m b = none := fun b hb => by rw [List.mem_singleton] at hb; rw [hb]; exact hg3
  have hb1 : m4 g = _ := hle4 _ _ hP
  refine ⟨_, cell_of hb1 2, via h73 ⟨g, s, r, a, _, rfl, hb1, by omega, by omega, by omega, hsm.s1, _, rfl, a.ws.length + 1, ?_⟩⟩
  exact objs_loopI t h60 hw hP hA (by omega) (R := objsL a) (fun s' M D hle hO hD => ret_intro (Mem.le_refl _) (hQ s' M D hle hO hD)) a.ws.length _ [] ⟨some ⟨g3, 0, none⟩, 0, 0⟩ [g3] m4 (by omega) (by omega) (by show ((0 : Nat) : Int) ≤ _; omega) rfl hle4 ho hf3 (by omega)
end Go.Proofs.YtjdcndicaeodbaaGreat.Abs
