/- Arenas: images: the reference's functions. -/
import Derived.Test.YtjdcndicaeodbaaSf
namespace Go.Proofs.Ytjdcndicaeodbaa.Abs
open Go.RowKit
set_option linter.unusedVariables false
set_option linter.unusedSimpArgs false
set_option maxRecDepth 20000
def u6 (x : Int) : Int := IntKind.u64.wrap x
def hdI (a : Ar) : List Int := [a.semi, a.to, a.top, if a.cyc = true then 1 else 0, a.scan, a.old, a.cop, a.ser, (a.rs.length : Int)]
def hdU (a : Ar) : List U64 := (hdI a).map fun x => ⟨u6 x⟩
def rtU (l : List Vl) : List U64 := l.flatMap fun v => [⟨u6 v.1⟩, ⟨u6 v.2⟩]
theorem rtU_app (l : List Vl) (v : Vl) : rtU (l ++ [v]) = rtU l ++ [⟨u6 v.1⟩, ⟨u6 v.2⟩] := by unfold rtU; rw [List.flatMap_append]; simp
theorem rtU_len : ∀ l : List Vl, (rtU l).length = 2 * l.length
  | [] => rfl
  | v :: l => by
    have e : rtU (v :: l) = [⟨u6 v.1⟩, ⟨u6 v.2⟩] ++ rtU l := by unfold rtU; rw [List.flatMap_cons]
    rw [e, List.length_append, rtU_len l]
    simp only [List.length_cons, List.length_nil]
    omega
def imU0 (a : Ar) : List U64 := hdU a ++ rtU a.rs
def imU1 (a : Ar) : List U64 := imU0 a ++ seg a.ws (startA a a.to) a.top
def imU (a : Ar) : List U64 := imU1 a ++ (if a.cyc = true then seg a.ws (startA a (1 - a.to)) a.old else [])
def sumU (l : List U64) : Int := l.foldl (fun s x => u6 (s + x.v)) 0
def imW (a : Ar) : List U64 := imU a ++ [⟨sumU (imU a)⟩]
def imB (a : Ar) : List U8 := (imW a).flatMap fun w => byts w.v 8
theorem hdU_len (a : Ar) : (hdU a).length = 9 := by unfold hdU hdI; rfl
/-- The sum goes behind the list. -/
theorem sum_loop (t : Tab) {Q : Value → Mem → Prop} {m : Mem} {s : Sl} {l : List U64} {D : List Nat} {M : Mem} (hle : Mem.le m M) (hO : OwnL M s l D) (hD : ∀ b ∈ D, m b = none) (hl : l.length ≤ 2 ^ 30)
    (hQ : ∀ (s' : Sl) (M' : Mem) (D' : List Nat), Mem.le m M' → OwnL M' s' (l ++ [⟨sumU l⟩]) D' → (∀ b ∈ D', m b = none) → ret Q (vs s') M') :
    ∀ (d i : Nat) (sum : Int), i + d = l.length → (l.drop i).foldl (fun s x => u6 (s + x.v)) sum = sumU l → L41_14 (look t) (d + 1) Q s.a s.n s.c sum (i : Int) M := by
  intro d
  have hn := hO.1
  induction d with
  | zero =>
    intro i sum hi hs
    rw [l41_14]
    refine ⟨M, Mem.le_refl _, ?_⟩
    rw [if_neg (by simp; omega)]
    rw [List.drop_eq_nil_of_le (by omega)] at hs
    have hs : sum = sumU l := hs
    rw [hs]
    refine app_u64 hle hO hD hl fun s' M' D' hsn hle' hO' hD' => ?_
    rw [← hsn]
    exact hQ s' M' D' hle' hO' hD'
  | succ d ih =>
    intro i sum hi hs
    have hlt : i < l.length := by omega
    rw [l41_14]
    refine ⟨M, Mem.le_refl _, ?_⟩
    rw [if_pos (by simp; omega), wsucc (n := 2 ^ 30) (by omega) (by decide)]
    refine wd hO.rd hn.symm (by omega) (by omega) fun ad had hd => ⟨_, hd _ (Mem.le_refl _), ?_⟩
    refine ih (i + 1) _ (by omega) ?_
    rw [← hs, List.drop_eq_getElem_cons hlt, List.foldl_cons]
    have e : gw l (i : Int) = l[i].v := by unfold gw; rw [List.getD_eq_getElem?_getD, Int.toNat_natCast, List.getElem?_eq_getElem hlt]; rfl
    rw [e]
    rfl
theorem num_loop (t : Tab) (h65 : look t 65 = s65) {Q : Value → Mem → Prop} {s r : Sl} {a : Ar} {m : Mem} {g : Nat} (hw : a.wf) (hN : NumP a) (hP : Ptr m g s r a) (hA : ArAt m s r a)
    (hQ : ∀ (s' : Sl) (M' : Mem) (D' : List Nat), Mem.le m M' → OwnL M' s' (imW a) D' → (∀ b ∈ D', m b = none) → ret Q (vs s') M') :
    ∀ (d i : Nat) (hs : Sl) (D : List Nat) (M : Mem), i + d = a.rs.length → Mem.le m M → OwnL M hs (hdU a ++ rtU (a.rs.take i)) D → (∀ b ∈ D, m b = none) → L41_6 (look t) (d + 1) Q g hs.a hs.n hs.c (i : Int) M := by
  intro d
  have hk := hA.k
  have hR := hw.r
  have hh := halves hN
  have hn := hA.n
  have hNn := hw.n
  have hf := hN.f
  unfold freeP at hf
  have hsm := hN.sm
  have := hsm.t0
  have := hsm.t1
  have := hsm.s0
  induction d with
  | zero =>
    intro i hs D M hi hle hO hD
    have hb1 := hle _ _ hP
    rw [List.take_of_length_le (by omega)] at hO
    rw [l41_6]
    refine ⟨M, Mem.le_refl _, _, _, _, cell_of hb1 9, ?_⟩
    rw [if_neg (by simp; omega)]
    refine ⟨Mem.le m, hle, _, _, _, held (cell_of hP 0), _, _, _, held (cell_of hP 0), _, held (cell_of hP 1), _, held (cell_of hP 2), _, held (cell_of hP 3), _, held (cell_of hP 4), _, held (cell_of hP 5), _, held (cell_of hP 6), _, held (cell_of hP 7), _, held (cell_of hP 8), _, _, _, held (cell_of hP 9), _, held (cell_of hP 2), _, held (cell_of hP 3), via h65 ⟨s, r, a, _, rfl, by omega, by omega, by omega, hsm.s1, _, rfl, hle, by omega, by have := hA.c; omega, by omega, by omega, ?_⟩⟩
    have hl0 : (hdU a ++ rtU a.rs).length ≤ 2 ^ 22 := by rw [List.length_append, hdU_len, rtU_len]; omega
    have hl1 : (imU1 a).length ≤ 2 ^ 23 := by unfold imU1 imU0; rw [List.length_append, seg_len (by omega) (by omega) (by omega)]; omega
    refine app_seg (ss := s) hle hO hD (by omega) (by omega) (by omega) (by omega) hNn (hA.w.le hle) (by have := hA.c; omega) fun s1 M1 D1 hsn hle1 hO1 hD1 => ⟨hle1, ?_⟩
    have hb1 := hle1 _ _ hP
    refine ⟨_, cell_of hb1 4, ?_⟩
    rw [← hsn]
    cases hc : a.cyc with
    | false =>
      rw [if_neg (by decide)]
      have eu : imU a = imU1 a := by unfold imU; rw [hc, if_neg (by decide), List.append_nil]
      have ew : imW a = imU1 a ++ [⟨sumU (imU1 a)⟩] := by unfold imW; rw [eu]
      exact ⟨(imU1 a).length + 1, sum_loop t hle1 hO1 hD1 (by show (imU1 a).length ≤ _; omega) (fun s' M' D' q1 q2 q3 => hQ s' M' D' q1 (by rw [ew]; exact q2) q3) (imU1 a).length 0 0 (by show 0 + _ = (imU1 a).length; omega) rfl⟩
    | true =>
      rw [if_pos rfl]
      rw [if_pos hc] at hf
      refine ⟨Mem.le m, hle1, _, _, _, held (cell_of hP 0), _, _, _, held (cell_of hP 0), _, held (cell_of hP 1), _, held (cell_of hP 2), _, held (cell_of hP 3), _, held (cell_of hP 4), _, held (cell_of hP 5), _, held (cell_of hP 6), _, held (cell_of hP 7), _, held (cell_of hP 8), _, _, _, held (cell_of hP 9), _, held (cell_of hP 2), _, held (cell_of hP 6), ?_⟩
      rw [w64 (x := 1 - a.to) (by omega) (by omega)]
      refine via h65 ⟨s, r, a, _, rfl, by omega, by omega, by omega, hsm.s1, _, rfl, hle1, by omega, by have := hA.c; omega, by omega, by omega, ?_⟩
      refine app_seg (ss := s) hle1 hO1 hD1 (by show (imU1 a).length ≤ _; omega) (by omega) (by omega) (by omega) hNn (hA.w.le hle1) (by have := hA.c; omega) fun s2 M2 D2 hsn2 hle2 hO2 hD2 => ⟨hle2, ?_⟩
      have eu : imU1 a ++ seg a.ws (startA a (1 - a.to)) a.old = imU a := by unfold imU; rw [hc, if_pos rfl]
      have hO2 : OwnL M2 s2 (imU a) D2 := eu ▸ hO2
      have hl2 : (imU a).length ≤ 2 ^ 24 := by rw [← eu, List.length_append, seg_len (by omega) (by omega) (by omega)]; omega
      rw [← hsn2]
      exact ⟨(imU a).length + 1, sum_loop t hle2 hO2 hD2 (by omega) (fun s' M' D' q1 q2 q3 => hQ s' M' D' q1 q2 q3) (imU a).length 0 0 (by omega) rfl⟩
  | succ d ih =>
    intro i hs D M hi hle hO hD
    have hb1 := hle _ _ hP
    have hlt : i < a.rs.length := by omega
    obtain ⟨v, hv⟩ : ∃ v, v = a.rs[i] := ⟨_, rfl⟩
    rw [l41_6]
    refine ⟨M, Mem.le_refl _, _, _, _, cell_of hb1 9, ?_⟩
    rw [if_pos (by simp; omega), wsucc (n := 2 ^ 20) (by omega) (by decide)]
    refine ⟨Mem.le m, hle, _, _, _, held (cell_of hP 9), idx' hA.r hk (by omega) (by omega) fun ad had hd => ?_⟩
    have hd : ∀ (j : Nat) (w : Value), (Enc.e v)[j]? = some w → m.cell? ((ad.add (Int.toNat (i : Int) * 2)).add j) = some w := by rw [hv]; exact hd
    refine ⟨_, held (hd 0 (.int .i64 v.1) rfl), _, _, _, held (cell_of hP 9), idx' hA.r hk (by omega) (by omega) fun ad' had' hd' => ?_⟩
    have hd' : ∀ (j : Nat) (w : Value), (Enc.e v)[j]? = some w → m.cell? ((ad'.add (Int.toNat (i : Int) * 2)).add j) = some w := by rw [hv]; exact hd'
    refine ⟨_, held (hd' 1 (.int .i64 v.2) rfl), newA_intro fun g2 m2 hg2 e2 hb2 hle2 => ⟨Mem.le_trans hle hle2, ?_⟩⟩
    refine app_u64b (Mem.le_trans hle hle2) ((Ds.rows U64).own_le hle2 hO) hD (by rw [List.length_append, hdU_len, rtU_len, List.length_take]; omega) hb2 fun s' M' D' hsn hle' hO' hD' => ⟨hle', ?_⟩
    rw [← hsn]
    refine ih (i + 1) s' D' M' (by omega) hle' ?_ hD'
    rw [List.take_succ_eq_append_getElem hlt, ← hv, rtU_app, ← List.append_assoc]
    exact hO'
def s41 : Spec := fun args m Q => ∃ (s r : Sl) (a : Ar), args = [vA s r a] ∧ ArAt m s r a ∧ a.wf ∧ NumP a ∧ ∀ (s' : Sl) (M : Mem) (D : List Nat), Mem.le m M → OwnL M s' (imW a) D → (∀ b ∈ D, m b = none) → Q (vs s') M
theorem f41 (t : Tab) (h65 : look t 65 = s65) : ∀ args m Q, s41 args m Q → FA Try.prog (look t) kp41 Try.f41 args m Q := by
  rintro args m Q ⟨s, r, a, rfl, hA, hw, hN, hQ⟩
  show FA Try.prog (look t) kp41 Try.f41 [.agg #[.slice s.a s.n s.c, .int .i64 a.semi, .int .i64 a.to, .int .i64 a.top, .bool a.cyc, .int .i64 a.scan, .int .i64 a.old, .int .i64 a.cop, .int .i64 a.ser, .slice r.a r.n r.c]] m Q
  rw [e41]
  refine newA_intro fun g m2 hg1 e2 hb1 hle2 => ⟨_, cell_of hb1 4, ?_⟩
  have hP : Ptr m2 g s r a := hb1
  have hk := hA.k
  have fin : ∀ (g3 : Nat) (m4 : Mem), m2 g3 = none → Mem.le m2 m4 → m4 g3 = some (.cells (flat Enc.e (hdU a) ++ []).toArray 65 (0, 0)) → ∃ k, L41_6 (look t) k Q g (some ⟨g3, 0, none⟩) 9 9 0 m4 := by
    intro g3 m4 h1 h2 h3
    refine ⟨a.rs.length + 1, num_loop t h65 hw hN hP (hA.le hle2) (fun s' M' D' q1 q2 q3 => ret_intro (Mem.le_refl _) (hQ s' M' D' (Mem.le_trans hle2 q1) q2 fun b hb => le_none hle2 (q3 b hb))) a.rs.length 0 ⟨some ⟨g3, 0, none⟩, 9, 9⟩ [g3] m4 (by omega) h2 ?_ (fun b hb => by rw [List.mem_singleton] at hb; rw [hb]; exact h1)⟩
    exact ⟨rfl, .inr ⟨g3, 65, [], rfl, rfl, by rw [h3]; simp [rtU], rfl⟩⟩
  cases hc : a.cyc with
  | true =>
    rw [if_pos rfl]
    refine ⟨_, cell_of hb1 1, _, cell_of hb1 2, _, cell_of hb1 3, _, cell_of hb1 5, _, cell_of hb1 6, _, cell_of hb1 7, _, cell_of hb1 8, _, _, _, cell_of hb1 9, newA_intro fun g3 m4 hg3 e4 hb3 hle4 => fin g3 m4 hg3 hle4 ?_⟩
    rw [hb3]
    unfold hdU hdI
    rw [hc, hk]
    rfl
  | false =>
    rw [if_neg (by decide)]
    refine ⟨_, cell_of hb1 1, _, cell_of hb1 2, _, cell_of hb1 3, _, cell_of hb1 5, _, cell_of hb1 6, _, cell_of hb1 7, _, cell_of hb1 8, _, _, _, cell_of hb1 9, newA_intro fun g3 m4 hg3 e4 hb3 hle4 => fin g3 m4 hg3 hle4 ?_⟩
    rw [hb3]
    unfold hdU hdI
    rw [hc, hk]
    rfl
theorem flatB_len : ∀ l : List U64, (l.flatMap fun w => byts w.v 8).length = 8 * l.length
  | [] => rfl
  | w :: l => by
    rw [List.flatMap_cons, List.length_append, flatB_len l, byts_len]
    simp only [List.length_cons]
    omega
open Classical in
noncomputable def imgA (a : Ar) : List U8 := if okP a then imB a else []
theorem img_loop (t : Tab) (h42 : look t 42 = s42) {Q : Value → Mem → Prop} {m : Mem} {ls : Sl} {L : List U64} (hL : ls.n = L.length) (hR : Rd m ls.a L) (hl : L.length ≤ 2 ^ 25) (hQ : ∀ (s' : Sl) (M' : Mem) (D' : List Nat), Mem.le m M' → OwnL M' s' (L.flatMap fun w => byts w.v 8) D' → (∀ b ∈ D', m b = none) → ret Q (.tuple #[vs s', .bool true]) M') :
    ∀ (d i : Nat) (hs : Sl) (D : List Nat) (M : Mem), i + d = L.length → Mem.le m M → OwnL M hs ((L.take i).flatMap fun w => byts w.v 8) D → (∀ b ∈ D, m b = none) → L16_6 (look t) (d + 1) Q ls.a ls.n ls.c hs.a hs.n hs.c (i : Int) M := by
  intro d
  induction d with
  | zero =>
    intro i hs D M hi hle hO hD
    rw [l16_6]
    refine ⟨M, Mem.le_refl _, ?_⟩
    rw [if_neg (by simp; omega)]
    rw [List.take_of_length_le (by omega)] at hO
    exact hQ hs M D hle hO hD
  | succ d ih =>
    intro i hs D M hi hle hO hD
    have hlt : i < L.length := by omega
    rw [l16_6]
    refine ⟨M, Mem.le_refl _, ?_⟩
    rw [if_pos (by simp; omega), wsucc (n := 2 ^ 25) (by omega) (by decide)]
    refine wd (hR.le hle) hL.symm (by omega) (by omega) fun ad had hd => ⟨_, hd _ (Mem.le_refl _), ?_⟩
    have e : gw L (i : Int) = L[i].v := by unfold gw; rw [List.getD_eq_getElem?_getD, Int.toNat_natCast, List.getElem?_eq_getElem hlt]; rfl
    rw [e]
    refine via h42 ⟨hs, _, L[i].v, D, m, rfl, hle, hO, hD, ?_, fun s' M' D' hle' hO' hD' => ⟨_, _, _, rfl, ih (i + 1) s' D' M' (by omega) hle' ?_ hD'⟩⟩
    · rw [flatB_len, List.length_take]
      omega
    · rw [List.take_succ_eq_append_getElem hlt, List.flatMap_append]
      simpa using hO'
def s16 : Spec := fun args m Q => ∃ (s r : Sl) (a : Ar), args = [vA s r a] ∧ ArAt m s r a ∧ a.wf ∧ ∀ (s' : Sl) (M : Mem) (D : List Nat), Mem.le m M → OwnL M s' (imgA a) D → (∀ b ∈ D, m b = none) → Q (.tuple #[vs s', .bool (pB (okP a))]) M
theorem imW_len {a : Ar} (hw : a.wf) : (imW a).length ≤ 2 ^ 24 := by
  have hn := hw.n
  have hr := hw.r
  have h1 : ∀ lo hi, (seg a.ws lo hi).length ≤ a.ws.length := fun lo hi => by unfold seg; rw [List.length_take, List.length_drop]; omega
  have h2 := h1 (startA a a.to) a.top
  have h3 := h1 (startA a (1 - a.to)) a.old
  unfold imW imU imU1 imU0
  rw [List.length_append, List.length_append, List.length_append, List.length_append, hdU_len, rtU_len]
  split <;> simp only [List.length_cons, List.length_nil] <;> omega
theorem f16 (t : Tab) (h29 : look t 29 = s29) (h41 : look t 41 = s41) (h42 : look t 42 = s42) : ∀ args m Q, s16 args m Q → FA Try.prog (look t) kp16 Try.f16 args m Q := by
  rintro args m Q ⟨s, r, a, rfl, hA, hw, hQ⟩
  show FA Try.prog (look t) kp16 Try.f16 [.agg #[.slice s.a s.n s.c, .int .i64 a.semi, .int .i64 a.to, .int .i64 a.top, .bool a.cyc, .int .i64 a.scan, .int .i64 a.old, .int .i64 a.cop, .int .i64 a.ser, .slice r.a r.n r.c]] m Q
  rw [e16]
  refine newA_intro fun g m2 hg1 e2 hb1 hle2 => ⟨_, _, _, cell_of hb1 0, _, cell_of hb1 1, _, cell_of hb1 2, _, cell_of hb1 3, _, cell_of hb1 4, _, cell_of hb1 5, _, cell_of hb1 6, _, cell_of hb1 7, _, cell_of hb1 8, _, _, _, cell_of hb1 9, via h29 ⟨s, r, a, rfl, hA.le hle2, hw, _, rfl, ?_⟩⟩
  by_cases hk : okP a
  case neg =>
    rw [pB_no hk, if_pos (by decide)]
    have e : imgA a = [] := by unfold imgA; rw [if_neg hk]
    have := hQ ⟨none, 0, 0⟩ m2 [] hle2 (e ▸ ⟨rfl, .inl ⟨rfl, rfl, rfl, rfl⟩⟩) fun b hb => by cases hb
    rw [pB_no hk] at this
    exact ret_intro (Mem.le_refl _) this
  rw [pB_yes hk] at hQ ⊢
  rw [if_neg (by decide)]
  have e : imgA a = imB a := by unfold imgA; rw [if_pos hk]
  have hN : NumP a := by obtain ⟨mk, hk⟩ := hk; exact hk.N
  refine ⟨_, _, _, cell_of hb1 0, _, cell_of hb1 1, _, cell_of hb1 2, _, cell_of hb1 3, _, cell_of hb1 4, _, cell_of hb1 5, _, cell_of hb1 6, _, cell_of hb1 7, _, cell_of hb1 8, _, _, _, cell_of hb1 9, via h41 ⟨s, r, a, rfl, hA.le hle2, hw, hN, fun ls M D hle hO hD => ⟨_, _, _, rfl, newA_intro fun g3 m4 hg3 e4 hb3 hle4 => ⟨(imW a).length + 1, ?_⟩⟩⟩⟩
  have hl := imW_len hw
  have hO4 := (Ds.rows U64).own_le hle4 hO
  have lM4 := Mem.le_trans (Mem.le_trans hle2 hle) hle4
  refine img_loop t h42 (m := M) hO.1 hO.rd (by omega) (fun s' M' D' q1 q2 q3 => ret_intro (Mem.le_refl _) (hQ s' M' D' (Mem.le_trans (Mem.le_trans hle2 hle) q1) (by rw [e]; exact q2) fun b hb => le_none (Mem.le_trans hle2 hle) (q3 b hb))) (imW a).length 0 ⟨some ⟨g3, 0, none⟩, 0, 0⟩ [g3] m4 (by omega) hle4 ⟨rfl, .inr ⟨g3, 5, [], rfl, rfl, by rw [hb3]; simp [flat], rfl⟩⟩ (fun b hb => by rw [List.mem_singleton] at hb; rw [hb]; exact hg3)
end Go.Proofs.Ytjdcndicaeodbaa.Abs
