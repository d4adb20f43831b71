/- Arenas: the census: the functions. -/
import Derived.Test.YtjdcndicaeodbaaRy
namespace Go.Proofs.Ytjdcndicaeodbaa.Abs
open Go.RowKit
set_option linter.unusedVariables false
set_option linter.unusedSimpArgs false
set_option maxRecDepth 20000

theorem wrap_add (x y : Int) : IntKind.i64.wrap (IntKind.i64.wrap x + y) = IntKind.i64.wrap (x + y) := by
  unfold IntKind.wrap
  simp [IntKind.bits, IntKind.signed]
  omega
theorem wrap_addR (x y : Int) : IntKind.i64.wrap (x + IntKind.i64.wrap y) = IntKind.i64.wrap (x + y) := by rw [Int.add_comm, wrap_add, Int.add_comm]
theorem kd_b {a : Ar} {q : Int} (h : okW (gw a.ws q) = true) : 1 ≤ kdW a.ws q ∧ kdW a.ws q ≤ 6 := by
  have e : lookW a.ws q = hdW (gw a.ws q) := by unfold lookW readH; rw [h]; rfl
  unfold okW hdOk at h
  rw [Bool.and_eq_true] at h
  have := kinds h.1
  unfold kdW
  rw [e]
  show 1 ≤ gw a.ws q % 16 ∧ gw a.ws q % 16 ≤ 6
  omega
theorem cen_loopS (t : Tab) (h31 : look t 31 = s31) {Q : Value → Mem → Prop} {s r ls : Sl} {a : Ar} {m : Mem} {g go : Nat} (hw : a.wf) (hP : Ptr m g s r a) (hA : ArAt m s r a) (hgo0 : m go = none) {L R : List Int} (hL : ls.n = L.length) (hR : Rd m ls.a L) (hLn : L.length ≤ 2 ^ 30) (hok : ∀ q ∈ L, 0 ≤ q ∧ q < a.ws.length ∧ okW (gw a.ws q) = true) (hQ : ∀ M : Mem, Mem.le m M → M go = some (rowI R 3) → ret Q (.slice (some ⟨go, 0, none⟩) 12 12) M) :
    ∀ (d i : Nat) (out : List Int) (M : Mem), i + d = L.length → out.length = 12 → (L.drop i).foldl (cenB a.ws) out = R → Mem.le m M → M go = some (rowI out 3) → L8_6 (look t) (d + 1) Q g (some ⟨go, 0, none⟩) 12 12 ls.a ls.n ls.c (i : Int) M := by
  intro d
  induction d with
  | zero =>
    intro i out M hi hlo hF hle hgo
    rw [l8_6]
    refine ⟨M, Mem.le_refl _, ?_⟩
    rw [if_neg (by simp; omega)]
    rw [List.drop_eq_nil_of_le (by omega)] at hF
    exact hQ M hle (by rw [← hF]; exact hgo)
  | succ d ih =>
    intro i out M hi hlo hF hle hgo
    have hb1 := hle _ _ hP
    have hA := hA.le hle
    have hlt : i < L.length := by omega
    obtain ⟨q, hq⟩ : ∃ q, q = L[i] := ⟨_, rfl⟩
    obtain ⟨q0, q1, q2⟩ := hok q (by rw [hq]; exact List.getElem_mem _)
    have eg : gi L (i : Int) = q := by rw [gi_mem hlt, hq]
    have kb := kd_b q2
    have bb := look_b hw q
    rw [List.drop_eq_getElem_cons hlt, ← hq, List.foldl_cons] at hF
    have i1 : IntKind.i64.wrap (IntKind.i64.wrap (2 * kdW a.ws q) - 2) = 2 * kdW a.ws q - 2 := by rw [w64 (x := 2 * kdW a.ws q) (by omega) (by omega), w64 (by omega) (by omega)]
    have i2 : IntKind.i64.wrap (IntKind.i64.wrap (2 * kdW a.ws q) - 1) = 2 * kdW a.ws q - 1 := by rw [w64 (x := 2 * kdW a.ws q) (by omega) (by omega), w64 (by omega) (by omega)]
    have fin : ∀ M5 : Mem, M5 go = some (rowI (cenB a.ws out q) 3) → Mem.le m M5 → L8_6 (look t) (d + 1) Q g (some ⟨go, 0, none⟩) 12 12 ls.a ls.n ls.c (IntKind.i64.wrap ((i : Int) + 1)) M5 := fun M5 k5 l5 => by
      rw [wsucc (n := 2 ^ 30) (by omega) (by decide)]
      exact ih (i + 1) _ M5 (by omega) (by rw [cenB_len]; exact hlo) hF l5 k5
    rw [l8_6]
    refine ⟨M, Mem.le_refl _, ?_⟩
    rw [if_pos (by simp; omega)]
    refine ⟨Mem.le M, Mem.le_refl _, _, _, _, held (cell_of hb1 0), _, held (cell_of hb1 1), _, held (cell_of hb1 2), _, held (cell_of hb1 3), _, held (cell_of hb1 4), _, held (cell_of hb1 5), _, held (cell_of hb1 6), _, held (cell_of hb1 7), _, held (cell_of hb1 8), _, _, _, held (cell_of hb1 9), li (hR.le hle) hL.symm (by omega) (by omega) fun ad had hd => ⟨_, hd, ?_, ?_⟩⟩
    · rw [eg]
      refine via h31 ⟨s, r, a, q, rfl, ⟨hA, hw, q0, q1⟩, _, _, _, rfl, Mem.le_refl _, newA_intro fun g2 m2 hg2 e2 hb2 hle2 => ⟨hle2, sto (c := #[.int .i64 0, .int .i64 0, .int .i64 0]) (t := 54) hb2 rfl (by simp) fun m3 e3 h3 hne3 => ?_⟩⟩
      have h3 : m3 g2 = some (.cells #[.int .i64 (kdW a.ws q), .int .i64 (szW a.ws q), .int .i64 (serW a.ws q)] 54 (0, 0)) := h3
      have l3 : Mem.le M m3 := fun b o hb => by
        have : b ≠ g2 := fun e => by rw [e, hg2] at hb; cases hb
        rw [hne3 b this]; exact hle2 _ _ hb
      have hg2o : g2 ≠ go := fun e => by rw [e, hgo] at hg2; cases hg2
      have ho3 := l3 _ _ hgo
      refine ⟨Mem.le m3, Mem.le_refl _, _, held (cell_of h3 0), _, held (cell_of h3 0), ?_⟩
      rw [i1]
      refine li (Rd.of_block (spare := []) ho3 (by simp)) hlo (by omega) (by omega) fun ad had hd => ⟨_, hd, set_mark ho3 (by omega) (by omega) hlo fun M4 k4 e4 => ?_⟩
      have h4 := (e4 g2 hg2o).trans h3
      refine ⟨Mem.le M4, Mem.le_refl _, _, held (cell_of h4 0), _, held (cell_of h4 0), ?_⟩
      rw [i2]
      refine li (l := setI out (2 * kdW a.ws q - 2) (IntKind.i64.wrap (gi out (2 * kdW a.ws q - 2) + 1))) (Rd.of_block (spare := []) k4 (by simp)) (by rw [setI_len]; exact hlo) (by omega) (by omega) fun ad had hd => ⟨_, hd, _, held (cell_of h4 1), set_mark k4 (by omega) (by rw [setI_len]; omega) (by rw [setI_len]; exact hlo) fun M5 k5 e5 => ?_⟩
      rw [gi_set (by omega) (by omega) (by omega), if_neg (by omega), wrap_add] at k5
      exact fin M5 k5 (le_put (le_put (Mem.le_trans hle l3) hgo0 e4) hgo0 e5)
    · rw [eg]
      refine newA_intro fun g2 m2 hg2 e2 hb2 hle2 => ⟨hle2, via h31 ⟨s, r, a, q, rfl, ⟨hA.le hle2, hw, q0, q1⟩, _, _, _, rfl, hle2, sto (c := #[.int .i64 0, .int .i64 0, .int .i64 0]) (t := 54) hb2 rfl (by simp) fun m3 e3 h3 hne3 => ?_⟩⟩
      have h3 : m3 g2 = some (.cells #[.int .i64 (kdW a.ws q), .int .i64 (szW a.ws q), .int .i64 (serW a.ws q)] 54 (0, 0)) := h3
      have l3 : Mem.le M m3 := fun b o hb => by
        have : b ≠ g2 := fun e => by rw [e, hg2] at hb; cases hb
        rw [hne3 b this]; exact hle2 _ _ hb
      have hg2o : g2 ≠ go := fun e => by rw [e, hgo] at hg2; cases hg2
      have ho3 := l3 _ _ hgo
      refine ⟨Mem.le m3, Mem.le_refl _, _, held (cell_of h3 0), _, held (cell_of h3 0), ?_⟩
      rw [i1]
      refine li (Rd.of_block (spare := []) ho3 (by simp)) hlo (by omega) (by omega) fun ad had hd => ⟨_, hd, set_mark ho3 (by omega) (by omega) hlo fun M4 k4 e4 => ?_⟩
      have h4 := (e4 g2 hg2o).trans h3
      refine ⟨Mem.le M4, Mem.le_refl _, _, held (cell_of h4 0), _, held (cell_of h4 0), ?_⟩
      rw [i2]
      refine li (l := setI out (2 * kdW a.ws q - 2) (IntKind.i64.wrap (gi out (2 * kdW a.ws q - 2) + 1))) (Rd.of_block (spare := []) k4 (by simp)) (by rw [setI_len]; exact hlo) (by omega) (by omega) fun ad had hd => ⟨_, hd, _, held (cell_of h4 1), set_mark k4 (by omega) (by rw [setI_len]; omega) (by rw [setI_len]; exact hlo) fun M5 k5 e5 => ?_⟩
      rw [gi_set (by omega) (by omega) (by omega), if_neg (by omega), wrap_add] at k5
      exact fin M5 k5 (le_put (le_put (Mem.le_trans hle l3) hgo0 e4) hgo0 e5)
theorem cen_len (ws : List U64) : ∀ (L out : List Int), (L.foldl (cenB ws) out).length = out.length
  | [], _ => rfl
  | q :: L, out => by rw [List.foldl_cons, cen_len ws L, cenB_len]
def s8 : Spec := fun args m Q => ∃ (s r : Sl) (a : Ar), args = [vA s r a] ∧ ArAt m s r a ∧ a.wf ∧ ∀ (s' : Sl) (M : Mem) (D : List Nat), Mem.le m M → OwnL M s' (cenA a) D → (∀ b ∈ D, m b = none) → Q (vs s') M
theorem zero12 : zeroRow #[.int .i64 0] 12 = (flat Enc.e (List.replicate 12 (0 : Int))).toArray := zeroRow_eq (0 : Int) 12
theorem objsF_len (a : Ar) : ∀ (f : Nat) (p : Int), (objsF a f p).length ≤ f
  | 0, _ => Nat.le_refl _
  | f + 1, p => by
    unfold objsF
    split
    · have := objsF_len a f (p + szW a.ws p + 1)
      show (objsF a f _).length + 1 ≤ f + 1
      omega
    · exact Nat.zero_le _
theorem objs_in {a : Ar} (hw : a.wf) {mk : List Int} (h : OkM a mk) : ∀ q ∈ objsL a, 0 ≤ q ∧ q < a.ws.length ∧ okW (gw a.ws q) = true := fun q hq => by
  obtain ⟨h1, h2, _, h3⟩ := objsL_ok hw h q hq
  have hh := halves h.N
  have := (look_b hw q).1
  exact ⟨by omega, by omega, h2⟩
theorem f8 (t : Tab) (h29 : look t 29 = s29) (h30 : look t 30 = s30) (h31 : look t 31 = s31) : ∀ args m Q, s8 args m Q → FA Try.prog (look t) kp8 Try.f8 args m Q := by
  rintro args m Q ⟨s, r, a, rfl, hA, hw, hQ⟩
  show FA Try.prog (look t) kp8 Try.f8 [.agg #[.slice s.a s.n s.c, .int .i64 a.semi, .int .i64 a.to, .int .i64 a.top, .bool a.cyc, .int .i64 a.scan, .int .i64 a.old, .int .i64 a.cop, .int .i64 a.ser, .slice r.a r.n r.c]] m Q
  rw [e8]
  have hN := hw.n
  refine newA_intro fun g m2 hg1 e2 hb1 hle2 => ⟨_, _, _, cell_of hb1 0, _, cell_of hb1 1, _, cell_of hb1 2, _, cell_of hb1 3, _, cell_of hb1 4, _, cell_of hb1 5, _, cell_of hb1 6, _, cell_of hb1 7, _, cell_of hb1 8, _, _, _, cell_of hb1 9, via h29 ⟨s, r, a, rfl, hA.le hle2, hw, _, rfl, ?_⟩⟩
  have hP : Ptr m2 g s r a := hb1
  by_cases hk : okP a
  case neg =>
    rw [pB_no hk, if_pos (by decide)]
    have e : cenA a = [] := by unfold cenA; rw [if_neg hk]
    exact ret_intro (Mem.le_refl _) (hQ ⟨none, 0, 0⟩ m2 [] hle2 (e ▸ ⟨rfl, .inl ⟨rfl, rfl, rfl, rfl⟩⟩) fun b hb => by cases hb)
  rw [pB_yes hk, if_neg (by decide)]
  have e : cenA a = cenL a := by unfold cenA; rw [if_pos hk]
  have eo : objsA a = objsL a := by unfold objsA; rw [if_pos hk]
  obtain ⟨mk, hk⟩ := hk
  refine ⟨by decide, by decide, by decide, by decide, newA_intro fun go m3 hgo e3 hb3 hle3 => ?_⟩
  have hb3 : m3 go = some (rowI (List.replicate 12 0) 3) := by rw [hb3]; unfold rowI; rw [List.append_nil, ← zero12]; rfl
  have hb1 := hle3 _ _ hb1
  have l3 := Mem.le_trans hle2 hle3
  -- the memory without the counts
  obtain ⟨m1, hm1⟩ : ∃ m1 : Mem, m1 = fun b => if b = go then none else m3 b := ⟨_, rfl⟩
  refine ⟨_, _, _, cell_of hb1 0, _, cell_of hb1 1, _, cell_of hb1 2, _, cell_of hb1 3, _, cell_of hb1 4, _, cell_of hb1 5, _, cell_of hb1 6, _, cell_of hb1 7, _, cell_of hb1 8, _, _, _, cell_of hb1 9, via h30 ⟨s, r, a, rfl, hA.le l3, hw, fun ls M D hle hO hD => ⟨_, _, _, rfl, (objsL a).length + 1, ?_⟩⟩⟩
  rw [eo] at hO
  have hgoM := hle _ _ hb3
  have hgoD : go ∉ D := fun h => by have := hD _ h; rw [hb3] at this; cases this
  obtain ⟨mM, hmM⟩ : ∃ mM : Mem, mM = fun b => if b = go then none else M b := ⟨_, rfl⟩
  have q1 : mM go = none := by rw [hmM]; exact if_pos rfl
  have q2 : ∀ b, b ≠ go → mM b = M b := fun b hb => by rw [hmM]; exact if_neg hb
  clear hmM
  have lMM : Mem.le mM M := fun b o hb => by
    by_cases e : b = go
    · rw [e, q1] at hb; cases hb
    · rw [← q2 b e]; exact hb
  have l2M : Mem.le m2 mM := fun b o hb => by
    have : b ≠ go := fun e => by rw [e, hgo] at hb; cases hb
    rw [q2 b this]; exact hle _ _ (hle3 _ _ hb)
  have hO' : OwnL mM ls (objsL a) D := hO.ext fun b hb => q2 b fun e => hgoD (e ▸ hb)
  have hlen := objsF_len a (a.ws.length + 1) (startA a a.to)
  exact cen_loopS t h31 hw (l2M _ _ hP) (hA.le (Mem.le_trans hle2 l2M)) q1 hO'.1 hO'.rd (by unfold objsL; omega) (objs_in hw hk) (R := cenL a) (fun M5 l5 k5 => ret_intro (Mem.le_refl _) (hQ ⟨some ⟨go, 0, none⟩, 12, 12⟩ M5 [go] (Mem.le_trans (Mem.le_trans hle2 l2M) l5) (e ▸ ⟨by unfold cenL; rw [show ((objsL a).foldl (cenB a.ws) (List.replicate 12 0)).length = 12 from cen_len _ _ _], .inr ⟨go, 3, [], rfl, rfl, k5, by unfold cenL; rw [show ((objsL a).foldl (cenB a.ws) (List.replicate 12 0)).length = 12 from cen_len _ _ _]; rfl⟩⟩) fun b hb => by rw [List.mem_singleton] at hb; rw [hb]; exact le_none hle2 hgo)) (objsL a).length 0 (List.replicate 12 0) M (by omega) rfl rfl lMM hgoM

theorem cen_loopI (t : Tab) (h36 : look t 36 = s36) {Q : Value → Mem → Prop} {s r ls : Sl} {a : Ar} {m : Mem} {g go : Nat} (hw : a.wf) (hP : Ptr m g s r a) (hA : ArAt m s r a) (hgo0 : m go = none) {L R : List Int} (hL : ls.n = L.length) (hR : Rd m ls.a L) (hLn : L.length ≤ 2 ^ 30) (hok : ∀ q ∈ L, 0 ≤ q ∧ q < a.ws.length ∧ okW (gw a.ws q) = true) (hQ : ∀ M : Mem, Mem.le m M → M go = some (rowI R 3) → ret Q (.slice (some ⟨go, 0, none⟩) 12 12) M) :
    ∀ (d i : Nat) (out : List Int) (M : Mem), i + d = L.length → out.length = 12 → (L.drop i).foldl (cenB a.ws) out = R → Mem.le m M → M go = some (rowI out 3) → L10_5 (look t) (d + 1) Q g (some ⟨go, 0, none⟩) 12 12 ls.a ls.n ls.c (ls.n : Int) (i : Int) M := by
  intro d
  induction d with
  | zero =>
    intro i out M hi hlo hF hle hgo
    rw [l10_5]
    refine ⟨M, Mem.le_refl _, ?_⟩
    rw [if_neg (by simp; omega)]
    rw [List.drop_eq_nil_of_le (by omega)] at hF
    exact hQ M hle (by rw [← hF]; exact hgo)
  | succ d ih =>
    intro i out M hi hlo hF hle hgo
    have hb1 := hle _ _ hP
    have hA := hA.le hle
    have hlt : i < L.length := by omega
    obtain ⟨q, hq⟩ : ∃ q, q = L[i] := ⟨_, rfl⟩
    obtain ⟨q0, q1, q2⟩ := hok q (by rw [hq]; exact List.getElem_mem _)
    have eg : gi L (i : Int) = q := by rw [gi_mem hlt, hq]
    have kb := kd_b q2
    have bb := look_b hw q
    rw [List.drop_eq_getElem_cons hlt, ← hq, List.foldl_cons] at hF
    have i1 : IntKind.i64.wrap (2 * IntKind.i64.wrap (kdW a.ws q - 1)) = 2 * kdW a.ws q - 2 := by rw [w64 (x := kdW a.ws q - 1) (by omega) (by omega), w64 (by omega) (by omega)]; omega
    have i2 : IntKind.i64.wrap (2 * kdW a.ws q - 2 + 1) = 2 * kdW a.ws q - 1 := by rw [w64 (by omega) (by omega)]; omega
    have fin : ∀ M5 : Mem, M5 go = some (rowI (cenB a.ws out q) 3) → Mem.le m M5 → L10_5 (look t) (d + 1) Q g (some ⟨go, 0, none⟩) 12 12 ls.a ls.n ls.c (ls.n : Int) (IntKind.i64.wrap ((i : Int) + 1)) M5 := fun M5 k5 l5 => by
      rw [wsucc (n := 2 ^ 30) (by omega) (by decide)]
      exact ih (i + 1) _ M5 (by omega) (by rw [cenB_len]; exact hlo) hF l5 k5
    rw [l10_5]
    refine ⟨M, Mem.le_refl _, ?_⟩
    rw [if_pos (by simp; omega)]
    refine li (hR.le hle) hL.symm (by omega) (by omega) fun ad had hd => ⟨_, hd _ (Mem.le_refl _), ?_⟩
    rw [eg]
    refine via h36 ⟨g, s, r, a, q, rfl, ⟨hb1, hA, hw, q0, q1⟩, _, _, _, rfl, newA_intro fun g2 m2 hg2 e2 hb2 hle2 => sto (c := #[.int .i64 0, .int .i64 0, .int .i64 0]) (t := 54) hb2 rfl (by simp) fun m3 e3 h3 hne3 => ?_⟩
    have h3 : m3 g2 = some (.cells #[.int .i64 (kdW a.ws q), .int .i64 (szW a.ws q), .int .i64 (serW a.ws q)] 54 (0, 0)) := h3
    have l3 : Mem.le M m3 := fun b o hb => by
      have : b ≠ g2 := fun e => by rw [e, hg2] at hb; cases hb
      rw [hne3 b this]; exact hle2 _ _ hb
    have hg2o : g2 ≠ go := fun e => by rw [e, hgo] at hg2; cases hg2
    have ho3 := l3 _ _ hgo
    refine ⟨_, cell_of h3 0, ?_⟩
    rw [i1]
    refine li (Rd.of_block (spare := []) ho3 (by simp)) hlo (by omega) (by omega) fun ad had hd => ⟨_, hd _ (Mem.le_refl _), set_mark ho3 (by omega) (by omega) hlo fun M4 k4 e4 => ?_⟩
    have h4 := (e4 g2 hg2o).trans h3
    refine ⟨Mem.le M4, Mem.le_refl _, _, held (cell_of h4 0), ?_⟩
    rw [i1, i2]
    refine li (l := setI out (2 * kdW a.ws q - 2) (IntKind.i64.wrap (gi out (2 * kdW a.ws q - 2) + 1))) (Rd.of_block (spare := []) k4 (by simp)) (by rw [setI_len]; exact hlo) (by omega) (by omega) fun ad had hd => ⟨_, hd, _, held (cell_of h4 1), set_mark k4 (by omega) (by rw [setI_len]; omega) (by rw [setI_len]; exact hlo) fun M5 k5 e5 => ?_⟩
    rw [gi_set (by omega) (by omega) (by omega), if_neg (by omega), wrap_addR, ← Int.add_assoc] at k5
    exact fin M5 k5 (le_put (le_put (Mem.le_trans hle l3) hgo0 e4) hgo0 e5)
def s10 : Spec := s8
theorem f10 (t : Tab) (h34 : look t 34 = s34) (h35 : look t 35 = s35) (h36 : look t 36 = s36) : ∀ args m Q, s10 args m Q → FA Try.prog (look t) kp10 Try.f10 args m Q := by
  rintro args m Q ⟨s, r, a, rfl, hA, hw, hQ⟩
  show FA Try.prog (look t) kp10 Try.f10 [.agg #[.slice s.a s.n s.c, .int .i64 a.semi, .int .i64 a.to, .int .i64 a.top, .bool a.cyc, .int .i64 a.scan, .int .i64 a.old, .int .i64 a.cop, .int .i64 a.ser, .slice r.a r.n r.c]] m Q
  rw [e10]
  have hN := hw.n
  refine newA_intro fun g m2 hg1 e2 hb1 hle2 => ⟨_, _, _, cell_of hb1 0, _, cell_of hb1 1, _, cell_of hb1 2, _, cell_of hb1 3, _, cell_of hb1 4, _, cell_of hb1 5, _, cell_of hb1 6, _, cell_of hb1 7, _, cell_of hb1 8, _, _, _, cell_of hb1 9, via h34 ⟨s, r, a, rfl, hA.le hle2, hw, _, rfl, ?_⟩⟩
  have hP : Ptr m2 g s r a := hb1
  by_cases hk : okP a
  case neg =>
    rw [pB_no hk, if_pos (by decide)]
    have e : cenA a = [] := by unfold cenA; rw [if_neg hk]
    exact ret_intro (Mem.le_refl _) (hQ ⟨none, 0, 0⟩ m2 [] hle2 (e ▸ ⟨rfl, .inl ⟨rfl, rfl, rfl, rfl⟩⟩) fun b hb => by cases hb)
  rw [pB_yes hk, if_neg (by decide)]
  have e : cenA a = cenL a := by unfold cenA; rw [if_pos hk]
  obtain ⟨mk, hk⟩ := hk
  refine ⟨by decide, by decide, by decide, by decide, newA_intro fun go m3 hgo e3 hb3 hle3 => ?_⟩
  have hb3 : m3 go = some (rowI (List.replicate 12 0) 3) := by rw [hb3]; unfold rowI; rw [List.append_nil, ← zero12]; rfl
  have l3 := Mem.le_trans hle2 hle3
  refine via h35 ⟨g, s, r, a, rfl, hle3 _ _ hP, hA.le l3, hw, hk.N, fun ls M D hle hO hD => ⟨_, _, _, rfl, (objsL a).length + 1, ?_⟩⟩
  have hgoM := hle _ _ hb3
  have hgoD : go ∉ D := fun h => by have := hD _ h; rw [hb3] at this; cases this
  obtain ⟨mM, hmM⟩ : ∃ mM : Mem, mM = fun b => if b = go then none else M b := ⟨_, rfl⟩
  have q1 : mM go = none := by rw [hmM]; exact if_pos rfl
  have q2 : ∀ b, b ≠ go → mM b = M b := fun b hb => by rw [hmM]; exact if_neg hb
  clear hmM
  have lMM : Mem.le mM M := fun b o hb => by
    by_cases e : b = go
    · rw [e, q1] at hb; cases hb
    · rw [← q2 b e]; exact hb
  have l2M : Mem.le m2 mM := fun b o hb => by
    have : b ≠ go := fun e => by rw [e, hgo] at hb; cases hb
    rw [q2 b this]; exact hle _ _ (hle3 _ _ hb)
  have hO' : OwnL mM ls (objsL a) D := hO.ext fun b hb => q2 b fun e => hgoD (e ▸ hb)
  have hlen := objsF_len a (a.ws.length + 1) (startA a a.to)
  exact cen_loopI t h36 hw (l2M _ _ hP) (hA.le (Mem.le_trans hle2 l2M)) q1 hO'.1 hO'.rd (by unfold objsL; omega) (objs_in hw hk) (R := cenL a) (fun M5 l5 k5 => ret_intro (Mem.le_refl _) (hQ ⟨some ⟨go, 0, none⟩, 12, 12⟩ M5 [go] (Mem.le_trans (Mem.le_trans hle2 l2M) l5) (e ▸ ⟨by unfold cenL; rw [show ((objsL a).foldl (cenB a.ws) (List.replicate 12 0)).length = 12 from cen_len _ _ _], .inr ⟨go, 3, [], rfl, rfl, k5, by unfold cenL; rw [show ((objsL a).foldl (cenB a.ws) (List.replicate 12 0)).length = 12 from cen_len _ _ _]; rfl⟩⟩) fun b hb => by rw [List.mem_singleton] at hb; rw [hb]; exact le_none hle2 hgo)) (objsL a).length 0 (List.replicate 12 0) M (by omega) rfl rfl lMM hgoM
end Go.Proofs.Ytjdcndicaeodbaa.Abs
