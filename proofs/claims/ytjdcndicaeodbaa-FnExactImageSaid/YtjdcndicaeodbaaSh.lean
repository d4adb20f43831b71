/- Arenas: images: the program's functions. -/
import Derived.Test.YtjdcndicaeodbaaSg
namespace Go.Proofs.Ytjdcndicaeodbaa.Abs
open Go.RowKit
set_option linter.unusedVariables false
set_option linter.unusedSimpArgs false
set_option maxRecDepth 20000
theorem gwl {L : List U64} {i : Nat} (h : i < L.length) : gw L (i : Int) = L[i].v := by unfold gw; rw [List.getD_eq_getElem?_getD, Int.toNat_natCast, List.getElem?_eq_getElem h]; rfl
/-- The bytes are put. -/
theorem byt_loop (t : Tab) (h73 : look t 73 = s73) {Q : Value → Mem → Prop} {m : Mem} {ls : Sl} {L : List U64} (hL : ls.n = L.length) (hR : Rd m ls.a L) (hl : L.length ≤ 2 ^ 25) (hQ : ∀ (s' : Sl) (M' : Mem) (D' : List Nat), Mem.le m M' → OwnL M' s' ((L ++ ([⟨sumU L⟩] : List U64)).flatMap fun w : U64 => byts w.v 8) D' → (∀ b ∈ D', m b = none) → ret Q (vs s') M') :
    ∀ (d i : Nat) (hs : Sl) (D : List Nat) (sum : Int) (M : Mem), i + d = L.length → (L.drop i).foldl (fun s x => u6 (s + x.v)) sum = sumU L → Mem.le m M → OwnL M hs ((L.take i).flatMap fun w => byts w.v 8) D → (∀ b ∈ D, m b = none) → L43_21 (look t) (d + 1) Q hs.a hs.n hs.c sum ls.a ls.n ls.c (ls.n : Int) (i : Int) M := by
  intro d
  induction d with
  | zero =>
    intro i hs D sum M hi hs2 hle hO hD
    rw [l43_21]
    refine ⟨M, Mem.le_refl _, ?_⟩
    rw [if_neg (by simp; omega)]
    rw [List.take_of_length_le (by omega)] at hO
    rw [List.drop_eq_nil_of_le (by omega)] at hs2
    have hs2 : sum = sumU L := hs2
    rw [hs2]
    refine via h73 ⟨hs, _, sumU L, D, m, rfl, hle, hO, hD, by rw [flatB_len]; omega, fun s' M' D' hle' hO' hD' => ⟨_, _, _, rfl, hQ s' M' D' hle' ?_ hD'⟩⟩
    rw [List.flatMap_append]
    simpa using hO'
  | succ d ih =>
    intro i hs D sum M hi hs2 hle hO hD
    have hlt : i < L.length := by omega
    rw [l43_21]
    refine ⟨M, Mem.le_refl _, ?_⟩
    rw [if_pos (by simp; omega), wsucc (n := 2 ^ 25) (by omega) (by decide)]
    refine wd (hR.le hle) hL.symm (by omega) (by omega) fun ad had hd => ⟨_, hd _ (Mem.le_refl _), ?_⟩
    rw [gwl hlt]
    refine via h73 ⟨hs, _, L[i].v, D, m, rfl, hle, hO, hD, by rw [flatB_len, List.length_take]; omega, fun s' M' D' hle' hO' hD' => ⟨_, _, _, rfl, ih (i + 1) s' D' _ M' (by omega) ?_ hle' ?_ hD'⟩⟩
    · rw [← hs2, List.drop_eq_getElem_cons hlt, List.foldl_cons]; rfl
    · rw [List.take_succ_eq_append_getElem hlt, List.flatMap_append]
      simpa using hO'
/-- Room is made for the bytes. -/
theorem byt_make (t : Tab) (h73 : look t 73 = s73) {Q : Value → Mem → Prop} {m M : Mem} {ls : Sl} {L : List U64} {D : List Nat} (hle : Mem.le m M) (hO : OwnL M ls L D) (hl : L.length ≤ 2 ^ 25) (hQ : ∀ (s' : Sl) (M' : Mem) (D' : List Nat), Mem.le m M' → OwnL M' s' ((L ++ ([⟨sumU L⟩] : List U64)).flatMap fun w : U64 => byts w.v 8) D' → (∀ b ∈ D', m b = none) → ret Q (vs s') M') :
    (0 ≤ (0 : Int) ∧ (0 : Int) ≤ IntKind.i64.wrap (IntKind.i64.wrap (8 * (ls.n : Int)) + 8) ∧ IntKind.i64.wrap (IntKind.i64.wrap (8 * (ls.n : Int)) + 8) * ((1 : Nat) : Int) ≤ 2 ^ 47 ∧ IntKind.i64.wrap (IntKind.i64.wrap (8 * (ls.n : Int)) + 8) ≤ 2 ^ 47 ∧
      newA M (.cells (zeroRow #[.int .u8 0] (Int.toNat (IntKind.i64.wrap (IntKind.i64.wrap (8 * (ls.n : Int)) + 8)) * 1)) 5 (0, 0)) fun g m2 => ∃ k, L43_21 (look t) k Q (some ⟨g, 0, none⟩) (Int.toNat 0) (Int.toNat (IntKind.i64.wrap (IntKind.i64.wrap (8 * (ls.n : Int)) + 8))) 0 ls.a ls.n ls.c (ls.n : Int) 0 m2) := by
  have hn := hO.1
  rw [w64 (x := 8 * (ls.n : Int)) (by omega) (by omega), w64 (x := 8 * (ls.n : Int) + 8) (by omega) (by omega)]
  refine ⟨by omega, by omega, by omega, by omega, ?_⟩
  generalize Int.toNat (8 * (ls.n : Int) + 8) = N
  refine newA_intro fun g m2 hg e hb hle2 => ⟨L.length + 1, ?_⟩
  have e1 : zeroRow #[.int .u8 0] (N * 1) = (flat Enc.e (List.replicate N (⟨0⟩ : U8))).toArray := zeroRow_eq (⟨0⟩ : U8) N
  rw [e1] at hb
  have hown : OwnL m2 (⟨some ⟨g, 0, none⟩, 0, N⟩ : Sl) ((L.take 0).flatMap fun w : U64 => byts w.v 8) [g] := by
    refine ⟨rfl, .inr ⟨g, 5, flat Enc.e (List.replicate N (⟨0⟩ : U8)), rfl, rfl, ?_, ?_⟩⟩
    · rw [hb, List.take_zero]
      rfl
    · rw [flat_len, List.length_replicate, List.take_zero]
      show 0 * Enc.s U8 + N * Enc.s U8 = N * Enc.s U8
      omega
  exact byt_loop t h73 (m := M) hn hO.rd hl (fun s' M' D' q1 q2 q3 => hQ s' M' D' (Mem.le_trans hle q1) q2 fun b hb => le_none hle (q3 b hb)) L.length 0 (⟨some ⟨g, 0, none⟩, 0, N⟩ : Sl) [g] 0 m2 (by omega) (by rw [List.drop_zero]; rfl) hle2 hown (fun b hb => by rw [List.mem_singleton] at hb; rw [hb]; exact hg)
theorem rts_loop (t : Tab) (h73 : look t 73 = s73) (h53 : look t 53 = s53) (h55 : look t 55 = s55) {Q : Value → Mem → Prop} {s r : Sl} {a : Ar} {m : Mem} {g : Nat} (hw : a.wf) (hN : NumP a) (hP : Ptr m g s r a) (hA : ArAt m s r a)
    (hQ : ∀ (s' : Sl) (M' : Mem) (D' : List Nat), Mem.le m M' → OwnL M' s' (imB a) D' → (∀ b ∈ D', m b = none) → ret Q (vs s') M') :
    ∀ (d i : Nat) (hs : Sl) (D : List Nat) (M : Mem), i + d = a.rs.length → Mem.le m M → OwnL M hs (hdU a ++ rtU (a.rs.take i)) D → (∀ b ∈ D, m b = none) → L43_11 (look t) (d + 1) Q g hs.a hs.n hs.c r.a r.n r.c (r.n : Int) (i : Int) M := by
  intro d
  have hk := hA.k
  have hR := hw.r
  have hh := halves hN
  have hn := hA.n
  have hNn := hw.n
  have hf := hN.f
  unfold freeP at hf
  have hsm := hN.sm
  have := hsm.t0
  have := hsm.t1
  have := hsm.s0
  induction d with
  | zero =>
    intro i hs D M hi hle hO hD
    have hb1 : Ptr M g s r a := hle _ _ hP
    rw [List.take_of_length_le (by omega)] at hO
    rw [l43_11]
    refine ⟨M, Mem.le_refl _, ?_⟩
    rw [if_neg (by simp; omega)]
    refine ⟨Mem.le m, hle, _, _, _, held (cell_of hP 0), _, held (cell_of hP 2), _, held (cell_of hP 3), via h53 ⟨g, s, r, a, _, rfl, hb1, by omega, by omega, by omega, hsm.s1, _, rfl, hle, by omega, by have := hA.c; omega, by omega, by omega, ?_⟩⟩
    have hl0 : (hdU a ++ rtU a.rs).length ≤ 2 ^ 22 := by rw [List.length_append, hdU_len, rtU_len]; omega
    have hl1 : (imU1 a).length ≤ 2 ^ 23 := by unfold imU1 imU0; rw [List.length_append, seg_len (by omega) (by omega) (by omega)]; omega
    refine app_seg (ss := s) hle hO hD (by omega) (by omega) (by omega) (by omega) hNn (hA.w.le hle) (by have := hA.c; omega) fun s1 M1 D1 hsn hle1 hO1 hD1 => ⟨hle1, ?_⟩
    have hb1 : Ptr M1 g s r a := hle1 _ _ hP
    refine ⟨_, cell_of hb1 4, ?_⟩
    rw [← hsn]
    cases hc : a.cyc with
    | false =>
      rw [if_neg (by decide)]
      have eu : imU a = imU1 a := by unfold imU; rw [hc, if_neg (by decide), List.append_nil]
      have hO1 : OwnL M1 s1 (imU a) D1 := eu ▸ hO1
      exact byt_make t h73 hle1 hO1 (by rw [eu]; omega) hQ
    | true =>
      rw [if_pos rfl]
      rw [if_pos hc] at hf
      refine ⟨Mem.le m, hle1, _, _, _, held (cell_of hP 0), _, held (cell_of hP 6), via h55 ⟨g, s, r, a, rfl, hb1, by omega, by omega, _, rfl, hle1, via h53 ⟨g, s, r, a, _, rfl, hb1, by omega, by omega, by omega, hsm.s1, _, rfl, hle1, by omega, by have := hA.c; omega, by omega, by omega, ?_⟩⟩⟩
      refine app_seg (ss := s) hle1 hO1 hD1 (by show (imU1 a).length ≤ _; omega) (by omega) (by omega) (by omega) hNn (hA.w.le hle1) (by have := hA.c; omega) fun s2 M2 D2 hsn2 hle2 hO2 hD2 => ⟨hle2, ?_⟩
      have eu : imU1 a ++ seg a.ws (startA a (1 - a.to)) a.old = imU a := by unfold imU; rw [hc, if_pos rfl]
      have hO2 : OwnL M2 s2 (imU a) D2 := eu ▸ hO2
      have hl2 : (imU a).length ≤ 2 ^ 24 := by rw [← eu, List.length_append, seg_len (by omega) (by omega) (by omega)]; omega
      rw [← hsn2]
      exact byt_make t h73 hle2 hO2 (by omega) hQ
  | succ d ih =>
    intro i hs D M hi hle hO hD
    have hlt : i < a.rs.length := by omega
    obtain ⟨v, hv⟩ : ∃ v, v = a.rs[i] := ⟨_, rfl⟩
    rw [l43_11]
    refine ⟨M, Mem.le_refl _, ?_⟩
    rw [if_pos (by simp; omega), wsucc (n := 2 ^ 20) (by omega) (by decide)]
    refine idx' (hA.r.le hle) hk (by omega) (by omega) fun ad had hd => ?_
    have hd : ∀ (j : Nat) (w : Value), (Enc.e v)[j]? = some w → M.cell? ((ad.add (Int.toNat (i : Int) * 2)).add j) = some w := by rw [hv]; exact hd
    refine ⟨_, hd 0 (.int .i64 v.1) rfl, _, hd 1 (.int .i64 v.2) rfl, newA_intro fun g1 m1 hg1 e1 hb1 hle1 => sto (c := #[.int .i64 0, .int .i64 0]) (t := 74) hb1 rfl (by simp) fun m3 e3 h3 hne3 => ?_⟩
    have h3 : m3 g1 = some (.cells #[.int .i64 v.1, .int .i64 v.2] 74 (0, 0)) := h3
    have l3 : Mem.le M m3 := le_other hle1 hg1 hne3
    refine ⟨_, cell_of h3 0, _, cell_of h3 1, newA_intro fun g2 m2 hg2 e2 hb2 hle2 => ?_⟩
    have l2 := Mem.le_trans l3 hle2
    refine app_u64b (Mem.le_trans hle l2) ((Ds.rows U64).own_le l2 hO) hD (by rw [List.length_append, hdU_len, rtU_len, List.length_take]; omega) hb2 fun s' M' D' hsn hle' hO' hD' => ?_
    rw [← hsn]
    refine ih (i + 1) s' D' M' (by omega) hle' ?_ hD'
    rw [List.take_succ_eq_append_getElem hlt, ← hv, rtU_app, ← List.append_assoc]
    exact hO'
theorem hdI_len (a : Ar) : (hdI a).length = 9 := rfl
theorem hds_loop (t : Tab) {Q : Value → Mem → Prop} {s r : Sl} {a : Ar} {m : Mem} {g g3 : Nat} (hP : Ptr m g s r a) (hH : Rd m (some ⟨g3, 0, none⟩) (hdI a))
    (hQ : ∀ (s' : Sl) (M' : Mem) (D' : List Nat), Mem.le m M' → OwnL M' s' (hdU a) D' → (∀ b ∈ D', m b = none) → ∃ k, L43_11 (look t) k Q g s'.a s'.n s'.c r.a r.n r.c (r.n : Int) 0 M') :
    ∀ (d i : Nat) (hs : Sl) (D : List Nat) (M : Mem), i + d = 9 → Mem.le m M → OwnL M hs ((hdU a).take i) D → (∀ b ∈ D, m b = none) → L43_6 (look t) (d + 1) Q g hs.a hs.n hs.c (some ⟨g3, 0, none⟩) 9 9 9 (i : Int) M := by
  intro d
  induction d with
  | zero =>
    intro i hs D M hi hle hO hD
    have hb1 : Ptr M g s r a := hle _ _ hP
    rw [List.take_of_length_le (by rw [hdU_len]; omega)] at hO
    rw [l43_6]
    refine ⟨M, Mem.le_refl _, ?_⟩
    rw [if_neg (by simp; omega)]
    exact ⟨_, _, _, cell_of hb1 9, hQ hs M D hle hO hD⟩
  | succ d ih =>
    intro i hs D M hi hle hO hD
    have hlt : i < (hdI a).length := by rw [hdI_len]; omega
    rw [l43_6]
    refine ⟨M, Mem.le_refl _, ?_⟩
    rw [if_pos (by simp; omega), wsucc (n := 9) (by omega) (by decide)]
    refine li (hH.le hle) (hdI_len a) (by omega) (by omega) fun ad had hd => ⟨_, hd _ (Mem.le_refl _), ?_⟩
    rw [gi_mem hlt]
    refine app_u64 hle hO hD (by rw [List.length_take]; omega) fun s' M' D' hsn hle' hO' hD' => ?_
    rw [← hsn]
    refine ih (i + 1) s' D' M' (by omega) hle' ?_ hD'
    have hlt2 : i < (hdU a).length := by rw [hdU_len]; omega
    rw [List.take_succ_eq_append_getElem hlt2]
    have e : (hdU a)[i] = ⟨u6 ((hdI a)[i])⟩ := by simp [hdU]; rfl
    rw [e]
    exact hO'
def s43 : Spec := fun args m Q => ∃ (g : Nat) (s r : Sl) (a : Ar), args = [.pointer (some ⟨g, 0, none⟩)] ∧ Ptr m g s r a ∧ ArAt m s r a ∧ a.wf ∧ NumP a ∧ ∀ (s' : Sl) (M : Mem) (D : List Nat), Mem.le m M → OwnL M s' (imB a) D → (∀ b ∈ D, m b = none) → Q (vs s') M
theorem f43 (t : Tab) (h73 : look t 73 = s73) (h53 : look t 53 = s53) (h55 : look t 55 = s55) : ∀ args m Q, s43 args m Q → FA Try.prog (look t) kp43 Try.f43 args m Q := by
  rintro args m Q ⟨g, s, r, a, rfl, hP, hA, hw, hN, hQ⟩
  rw [e43]
  have hk := hA.k
  have fin : ∀ (g1 g2 : Nat) (m2 m4 : Mem), m g1 = none → m2 g1 = some (.cells #[] 65 (0, 0)) → Mem.le m m2 → m2 g2 = none → Mem.le m2 m4 → m4 g2 = some (.cells (flat Enc.e (hdI a) ++ []).toArray 3 (0, 0)) → ∃ k, L43_6 (look t) k Q g (some ⟨g1, 0, none⟩) 0 0 (some ⟨g2, 0, none⟩) 9 9 9 0 m4 := by
    intro g1 g2 m2 m4 h1 h2 h3 h4 h5 h6
    have n12 : g1 ≠ g2 := fun e => by rw [← e, h2] at h4; cases h4
    obtain ⟨m0, hm0⟩ : ∃ m0 : Mem, m0 = fun b => if b = g1 then none else m4 b := ⟨_, rfl⟩
    have q1 : m0 g1 = none := by rw [hm0]; exact if_pos rfl
    have q2 : ∀ b, b ≠ g1 → m0 b = m4 b := fun b hb => by rw [hm0]; exact if_neg hb
    clear hm0
    have l04 : Mem.le m0 m4 := fun b o hb => by
      by_cases e : b = g1
      · rw [e, q1] at hb; cases hb
      · rw [← q2 b e]; exact hb
    have lm0 : Mem.le m m0 := fun b o hb => by
      have : b ≠ g1 := fun e => by rw [e, h1] at hb; cases hb
      rw [q2 b this]; exact h5 _ _ (h3 _ _ hb)
    refine ⟨10, hds_loop t (m := m0) (s := s) (r := r) (a := a) (lm0 _ _ hP) (Rd.of_block (spare := []) ((q2 g2 n12.symm).trans h6) (by simp)) (fun s' M' D' hle' hO' hD' => ⟨a.rs.length + 1, rts_loop t h73 h53 h55 hw hN (lm0 _ _ hP) (hA.le lm0) (fun s2 M2 D2 r1 r2 r3 => ret_intro (Mem.le_refl _) (hQ s2 M2 D2 (Mem.le_trans lm0 r1) r2 fun b hb => le_none lm0 (r3 b hb))) a.rs.length 0 s' D' M' (by omega) hle' (by simpa [rtU] using hO') hD'⟩) 9 0 ⟨some ⟨g1, 0, none⟩, 0, 0⟩ [g1] m4 rfl l04 ⟨rfl, .inr ⟨g1, 65, [], rfl, rfl, by rw [h5 _ _ h2]; rfl, rfl⟩⟩ (fun b hb => by rw [List.mem_singleton] at hb; rw [hb]; exact q1)⟩
  refine ⟨_, cell_of hP 4, ?_⟩
  cases hc : a.cyc with
  | true =>
    rw [if_pos rfl]
    refine newA_intro fun g1 m2 hg1 e2 hb1 hle2 => ⟨Mem.le m, hle2, _, held (cell_of hP 1), _, held (cell_of hP 2), _, held (cell_of hP 3), _, held (cell_of hP 5), _, held (cell_of hP 6), _, held (cell_of hP 7), _, held (cell_of hP 8), _, _, _, held (cell_of hP 9), newA_intro fun g3 m4 hg3 e4 hb3 hle4 => ⟨Mem.le_trans hle2 hle4, fin g1 g3 m2 m4 hg1 hb1 hle2 hg3 hle4 ?_⟩⟩
    rw [hb3]
    unfold hdI
    rw [hc, hk]
    rfl
  | false =>
    rw [if_neg (by decide)]
    refine newA_intro fun g1 m2 hg1 e2 hb1 hle2 => ⟨Mem.le m, hle2, _, held (cell_of hP 1), _, held (cell_of hP 2), _, held (cell_of hP 3), _, held (cell_of hP 5), _, held (cell_of hP 6), _, held (cell_of hP 7), _, held (cell_of hP 8), _, _, _, held (cell_of hP 9), newA_intro fun g3 m4 hg3 e4 hb3 hle4 => ⟨Mem.le_trans hle2 hle4, fin g1 g3 m2 m4 hg1 hb1 hle2 hg3 hle4 ?_⟩⟩
    rw [hb3]
    unfold hdI
    rw [hc, hk]
    rfl
def s17 : Spec := fun args m Q => ∃ (s r : Sl) (a : Ar), args = [vA s r a] ∧ ArAt m s r a ∧ a.wf ∧ ∀ (s' : Sl) (M : Mem) (D : List Nat), Mem.le m M → OwnL M s' (imgA a) D → (∀ b ∈ D, m b = none) → Q (.tuple #[vs s', .bool (pB (okP a))]) M
theorem f17 (t : Tab) (h34 : look t 34 = s34) (h43 : look t 43 = s43) : ∀ args m Q, s17 args m Q → FA Try.prog (look t) kp17 Try.f17 args m Q := by
  rintro args m Q ⟨s, r, a, rfl, hA, hw, hQ⟩
  show FA Try.prog (look t) kp17 Try.f17 [.agg #[.slice s.a s.n s.c, .int .i64 a.semi, .int .i64 a.to, .int .i64 a.top, .bool a.cyc, .int .i64 a.scan, .int .i64 a.old, .int .i64 a.cop, .int .i64 a.ser, .slice r.a r.n r.c]] m Q
  rw [e17]
  refine newA_intro fun g m2 hg1 e2 hb1 hle2 => ⟨_, _, _, cell_of hb1 0, _, cell_of hb1 1, _, cell_of hb1 2, _, cell_of hb1 3, _, cell_of hb1 4, _, cell_of hb1 5, _, cell_of hb1 6, _, cell_of hb1 7, _, cell_of hb1 8, _, _, _, cell_of hb1 9, via h34 ⟨s, r, a, rfl, hA.le hle2, hw, _, rfl, ?_⟩⟩
  by_cases hk : okP a
  case neg =>
    rw [pB_no hk, if_pos (by decide)]
    have e : imgA a = [] := by unfold imgA; rw [if_neg hk]
    have := hQ ⟨none, 0, 0⟩ m2 [] hle2 (e ▸ ⟨rfl, .inl ⟨rfl, rfl, rfl, rfl⟩⟩) fun b hb => by cases hb
    rw [pB_no hk] at this
    exact ret_intro (Mem.le_refl _) this
  rw [pB_yes hk] at hQ ⊢
  rw [if_neg (by decide)]
  have e : imgA a = imB a := by unfold imgA; rw [if_pos hk]
  have hN : NumP a := by obtain ⟨mk, hk⟩ := hk; exact hk.N
  exact via h43 ⟨g, s, r, a, rfl, hb1, hA.le hle2, hw, hN, fun s' M D hle hO hD => ⟨_, _, _, rfl, ret_intro (Mem.le_refl _) (hQ s' M D (Mem.le_trans hle2 hle) (by rw [e]; exact hO) fun b hb => le_none hle2 (hD b hb))⟩⟩
end Go.Proofs.Ytjdcndicaeodbaa.Abs
