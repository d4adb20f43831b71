/- Arenas: is an arena right? The program's function. -/
import Derived.Test.YtpdcjocjkbgddaaGreatRw
namespace Go.Proofs.YtpdcjocjkbgddaaGreat.Abs
open Go.RowKit
set_option linter.unusedVariables false
set_option linter.unusedSimpArgs false
set_option maxRecDepth 20000
theorem halves0 {a : Ar} (hsm : a.sm) (h0 : startA a a.to ≤ a.top) (h1 : a.top ≤ endA a a.to) : endA a a.to ≤ a.ws.length ∧ 1 ≤ startA a a.to ∧ 1 ≤ startA a (1 - a.to) ∧ endA a (1 - a.to) ≤ a.ws.length ∧ (endA a a.to < startA a (1 - a.to) ∨ endA a (1 - a.to) < startA a a.to) := by
  have e1 := startA_eq (a := a) hsm.t0 hsm.t1
  have e2 := startA_eq (a := a) (h := 1 - a.to) (by have := hsm.t1; omega) (by have := hsm.t0; omega)
  have e3 := endA_eq (a := a) hsm.t0 hsm.t1
  have e4 := endA_eq (a := a) (h := 1 - a.to) (by have := hsm.t1; omega) (by have := hsm.t0; omega)
  have := hsm.t0
  have := hsm.t1
  have := hsm.s0
  have := hsm.s1
  have := hsm.l
  rw [e1] at h0
  rw [e3] at h1
  rw [e1, e2, e3, e4]
  split <;> split <;> omega
theorem tile1_ok0 {a : Ar} (hw : a.wf) (hsm : a.sm) (h0 : startA a a.to ≤ a.top) (h1 : a.top ≤ endA a a.to) {mk : List Int} {x : Int} (ht : tile1 a = some (mk, x)) : mk.length = a.ws.length ∧ ∀ p : Int, 0 ≤ p → gi mk p = 0 ∨ gi mk p = 1 ∧ startA a a.to ≤ p ∧ headI a a.top p := by
  have hh := halves0 hsm h0 h1
  have hz : (zeroA a).length = a.ws.length := by unfold zeroA; rw [List.length_replicate]
  have r := wk_ok hw _ _ _ _ _ _ _ (by omega) (by omega) (by omega) ht
  refine ⟨by rw [r.n, hz], fun p p0 => ?_⟩
  have e0 : gi (zeroA a) p = 0 := gi_zero _ _
  by_cases c : startA a a.to ≤ p ∧ p < a.top
  · rcases r.i p c.1 c.2 with t | t | t
    · exact .inl (by rw [t, e0])
    · exact .inr ⟨t.1, c.1, t.2⟩
    · omega
  · exact .inl (by rw [r.o p p0 (by omega), e0])
theorem tileO_c {a : Ar} {mk mk2 : List Int} {x : Int} (h : tile1 a = some (mk, x)) (hc : a.cyc = true) (ht : tileO a = some mk2) : tile2 a mk = some (mk2, a.cop) ∧ scanP a mk2 := by
  by_cases c : ∃ mk2, tile2 a mk = some (mk2, a.cop) ∧ scanP a mk2
  · obtain ⟨mk3, c1, c2⟩ := c
    have := tileO_t h hc c1 c2
    rw [ht] at this
    cases this
    exact ⟨c1, c2⟩
  · rw [tileO_x h hc c] at ht
    cases ht
theorem okP_iff {a : Ar} {mk : List Int} (hw : a.wf) (hN : NumP a) (ht : tileO a = some mk) (hs : serR a mk) : okP a ↔ cntP a mk := by
  constructor
  · rintro ⟨mk', h⟩
    have e := h.t
    rw [ht] at e
    cases e
    have := (okQ hw hN ht).1 ⟨h.o, h.b⟩
    exact ⟨this.1, this.2, h.r⟩
  · rintro ⟨h1, h2, h3⟩
    have := (okQ hw hN ht).2 ⟨h1, h2⟩
    exact ⟨mk, hN, ht, hs, this.1, this.2, h3⟩
theorem serR_mono {a : Ar} {mk mk2 : List Int} (hl : mk.length = mk2.length) (h : ∀ p : Int, 0 ≤ p → hdM mk p → hdM mk2 p) (hs : serR a mk2) : serR a mk := fun p q p0 pq q1 hp hq => hs p q p0 pq (by omega) (h p p0 hp) (h q (by omega) hq)
theorem okM_tile1 {a : Ar} (hw : a.wf) {mk : List Int} (h : OkM a mk) : ∃ mk1 x, tile1 a = some (mk1, x) ∧ serR a mk1 := by
  cases e : tile1 a with
  | none => have := h.t; rw [tileO_n e] at this; cases this
  | some y =>
    obtain ⟨mk1, x⟩ := y
    refine ⟨mk1, x, rfl, ?_⟩
    obtain ⟨n1, t1⟩ := tile1_ok hw h.N e
    cases hc : a.cyc with
    | false =>
      have := h.t
      rw [tileO_f e hc] at this
      cases this
      exact h.s
    | true =>
      obtain ⟨x1, x2⟩ := tileO_c e hc h.t
      obtain ⟨n2, _, _, t2⟩ := tile2_ok hw h.N hc e x1
      refine serR_mono (n1.trans n2.symm) (fun p p0 hp => ?_) h.s
      unfold hdM at hp ⊢
      rcases t2 p p0 with z | z
      · rw [z.1]; exact hp
      · omega
theorem cell_M {M : Mem} {gl : Nat} {mk : List Int} {tl : TypeId} {p : Int} (h : M gl = some (rowM mk tl)) (p0 : 0 ≤ p) (p1 : p < mk.length) : M.cell? ((⟨gl, 0, none⟩ : Addr).add (p.toNat * 1)) = some (.int .u8 (gi mk p)) := by
  have : optA (some (⟨gl, 0, none⟩ : Addr)) fun (ad : Addr) => 0 ≤ p ∧ p < (mk.length : Int) ∧ M.cell? (ad.add (p.toNat * 1)) = some (.int .u8 (gi mk p)) := ru (n := mk.length) (Rd.of_block (spare := []) h (by rfl)) rfl p0 p1 fun ad had hd => hd M (Mem.le_refl _)
  exact this.2.2
def s32 : Spec := fun args m Q => ∃ (s r : Sl) (a : Ar), args = [vA s r a] ∧ ArAt m s r a ∧ a.wf ∧ Q (.bool (pB (okP a))) m
theorem f32 (t : Tab) (h47 : look t 47 = s47) (h63 : look t 63 = s63) (h64 : look t 64 = s64) (h66 : look t 66 = s66) (h67 : look t 67 = s67) (h65 : look t 65 = s65) (h68 : look t 68 = s68) : ∀ args m Q, s32 args m Q → FA Tryz.prog (look t) kp32 Tryz.f32 args m Q := by
  rintro args m Q ⟨s, r, a, rfl, hA, hw, hQ⟩
  show FA Tryz.prog (look t) kp32 Tryz.f32 [.agg #[.slice s.a s.n s.c, .int .i64 a.semi, .int .i64 a.to, .int .i64 a.top, .bool a.cyc, .int .i64 a.scan, .int .i64 a.old, .int .i64 a.cop, .int .i64 a.ser, .slice r.a r.n r.c]] m Q
  rw [e32]
  have hn := hA.n
  have hk := hA.k
  have hNn := hw.n
  have bad : ∀ M, Mem.le m M → ¬ okP a → ret Q (.bool false) M := fun M hM h => ret_intro hM (pB_no h ▸ hQ)
  refine newA_intro fun g m2 hg1 e2 hb1 hle2 => ?_
  have hP : Ptr m2 g s r a := hb1
  refine ⟨Mem.le m2, Mem.le_refl _, _, held (cell_of hb1 1), via h47 ⟨_, _, _, rfl, _, rfl, Mem.le_refl _, ?_⟩⟩
  by_cases c1 : 256 ≤ a.semi ∧ a.semi ≤ 4000
  case neg => rw [decide_eq_false c1, if_pos (by decide)]; exact bad m2 hle2 fun ⟨mk, h⟩ => c1 ⟨h.N.sm.s0, h.N.sm.s1⟩
  rw [decide_eq_true c1, if_neg (by decide)]
  obtain ⟨c1, c1'⟩ := c1
  refine ⟨_, _, _, held (cell_of hb1 0), _, held (cell_of hb1 1), ?_⟩
  rw [w64 (x := 2 * a.semi) (by omega) (by omega)]
  by_cases c2 : (s.n : Int) = 2 * a.semi
  case neg => rw [if_pos (by simpa using c2)]; exact bad m2 hle2 fun ⟨mk, h⟩ => c2 (by have := h.N.sm.l; omega)
  rw [if_neg (by simpa using c2)]
  refine ⟨_, held (cell_of hb1 2), via h47 ⟨_, _, _, rfl, _, rfl, Mem.le_refl _, ?_⟩⟩
  by_cases c3 : 0 ≤ a.to ∧ a.to ≤ 1
  case neg => rw [decide_eq_false c3, if_pos (by decide)]; exact bad m2 hle2 fun ⟨mk, h⟩ => c3 ⟨h.N.sm.t0, h.N.sm.t1⟩
  rw [decide_eq_true c3, if_neg (by decide)]
  obtain ⟨t0, t1⟩ := c3
  refine ⟨_, held (cell_of hb1 3), _, held (cell_of hb1 2), _, held (cell_of hb1 2), via h63 ⟨g, s, r, a, _, rfl, hP, t0, t1, by omega, c1', _, rfl, Mem.le_refl _, via h64 ⟨g, s, r, a, _, rfl, hP, t0, t1, by omega, c1', _, rfl, Mem.le_refl _, via h47 ⟨_, _, _, rfl, _, rfl, Mem.le_refl _, ?_⟩⟩⟩⟩
  by_cases c6 : startA a a.to ≤ a.top ∧ a.top ≤ endA a a.to
  case neg => rw [decide_eq_false c6, if_pos (by decide)]; exact bad m2 hle2 fun ⟨mk, h⟩ => c6 ⟨h.N.p0, h.N.p1⟩
  rw [decide_eq_true c6, if_neg (by decide)]
  obtain ⟨c6, c6'⟩ := c6
  refine ⟨_, held (cell_of hb1 8), via h47 ⟨_, _, _, rfl, _, rfl, Mem.le_refl _, ?_⟩⟩
  by_cases c4 : 1 ≤ a.ser ∧ a.ser ≤ 1000000000
  case neg => rw [decide_eq_false c4, if_pos (by decide)]; exact bad m2 hle2 fun ⟨mk, h⟩ => c4 ⟨h.N.z0, h.N.z1⟩
  rw [decide_eq_true c4, if_neg (by decide)]
  refine ⟨_, _, _, held (cell_of hb1 9), ?_⟩
  by_cases c5 : (r.n : Int) > 24
  case pos => rw [if_pos (by simpa using c5)]; exact bad m2 hle2 fun ⟨mk, h⟩ => by have := h.N.r; omega
  rw [if_neg (by simpa using c5)]
  have sm : a.sm := ⟨c1, c1', t0, t1, by omega⟩
  have hh := halves0 sm c6 c6'
  refine ⟨_, _, _, cell_of hb1 0, ?_⟩
  rw [← hn]
  refine ⟨by omega, Int.le_refl _, by omega, by omega, newA_intro fun gl m3 hgl e3 hb3 hle3 => newA_intro fun gm m4 hgm e4 hb4 hle4 => newA_intro fun gb m5 hgb e5 hb5 hle5 => newA_intro fun gs m6 hgs e6 hb6 hle6 => ?_⟩
  have k3 : m3 gl = some (rowM (zeroA a) 5) := by
    rw [hb3]
    unfold rowM u8s zeroA
    rw [List.append_nil, List.map_replicate, ← zeroRow_eq]
    rfl
  have L23 := hle3
  have L24 := Mem.le_trans L23 hle4
  have L25 := Mem.le_trans L24 hle5
  have L26 := Mem.le_trans L25 hle6
  have hlm : gl ≠ gm := fun e => by rw [← e, hb3] at hgm; cases hgm
  have hlb : gl ≠ gb := fun e => by rw [← e, hle4 _ _ hb3] at hgb; cases hgb
  have hls : gl ≠ gs := fun e => by rw [← e, hle5 _ _ (hle4 _ _ hb3)] at hgs; cases hgs
  have hmb : gm ≠ gb := fun e => by rw [← e, hb4] at hgb; cases hgb
  have hms : gm ≠ gs := fun e => by rw [← e, hle5 _ _ hb4] at hgs; cases hgs
  have hbs : gb ≠ gs := fun e => by rw [← e, hb5] at hgs; cases hgs
  have l6 : m6 gl = some (rowM (zeroA a) 5) := hle6 _ _ (hle5 _ _ (hle4 _ _ k3))
  have q6 : m6 gm = some (.map #[] 0) := hle6 _ _ (hle5 _ _ hb4)
  -- the memory without the marks and the serials
  obtain ⟨m0, hm0d⟩ : ∃ m0 : Mem, m0 = fun b => if b = gl ∨ b = gm then none else m6 b := ⟨_, rfl⟩
  have hl0 : m0 gl = none := by rw [hm0d]; exact if_pos (.inl rfl)
  have hm0 : m0 gm = none := by rw [hm0d]; exact if_pos (.inr rfl)
  have ne0 : ∀ b, b ≠ gl → b ≠ gm → m0 b = m6 b := fun b h1 h2 => by rw [hm0d]; exact if_neg (by rintro (h | h); exact h1 h; exact h2 h)
  clear hm0d
  have l06 : Mem.le m0 m6 := fun b o hb => by
    by_cases e1 : b = gl
    · rw [e1, hl0] at hb; cases hb
    · by_cases e2 : b = gm
      · rw [e2, hm0] at hb; cases hb
      · rw [← ne0 b e1 e2]; exact hb
  have l200 : Mem.le m2 m0 := fun b o hb => by
    have h1 : b ≠ gl := fun e => by rw [e, hgl] at hb; cases hb
    have h2 : b ≠ gm := fun e => by have := hle3 _ _ hb; rw [e, hgm] at this; cases this
    rw [ne0 b h1 h2]; exact L26 _ _ hb
  have l20 : Mem.le m m0 := Mem.le_trans hle2 l200
  have hP0 : Ptr m0 g s r a := l200 _ _ hP
  have hA0 : ArAt m0 s r a := hA.le l20
  have hS0 : m0 gs = _ := (ne0 gs hls.symm hms.symm).trans hb6
  have hB0 : m0 gb = some (.map #[] 0) := (ne0 gb hlb.symm hmb.symm).trans (hle6 _ _ hb5)
  -- the last step
  have last : ∀ (M : Mem) (mk : List Int), Mem.le m0 M → M gl = some (rowM mk 5) → mk.length = a.ws.length → NumP a → tileO a = some mk → serR a mk → look t 68 [.pointer (some ⟨gs, 0, none⟩)] M (fun v M' => ∃ b : Bool, v = .bool b ∧ ret Q (.bool b) M') := by
    intro M mk hle hl hmk hN ht hs
    obtain ⟨m1, hm1⟩ : ∃ m1 : Mem, m1 = fun b => if b = gb then none else M b := ⟨_, rfl⟩
    have q1 : m1 gb = none := by rw [hm1]; exact if_pos rfl
    have q2 : ∀ b, b ≠ gb → m1 b = M b := fun b hb => by rw [hm1]; exact if_neg hb
    clear hm1
    have l1M : Mem.le m1 M := fun b o hb => by
      by_cases e : b = gb
      · rw [e, q1] at hb; cases hb
      · rw [← q2 b e]; exact hb
    have lm1 : Mem.le m m1 := fun b o hb => by
      have : b ≠ gb := fun e => by have := L24 _ _ (hle2 _ _ hb); rw [e, hgb] at this; cases this
      rw [q2 b this]; exact hle _ _ (l20 _ _ hb)
    have hgb2 : g ≠ gb := fun e => by have := L24 _ _ hb1; rw [e, hgb] at this; cases this
    refine via h68 ⟨gs, g, gb, s, r, ⟨some ⟨gl, 0, none⟩, a.ws.length, a.ws.length⟩, some gm, a, mk, m1, rfl, ⟨(q2 gs hbs.symm).trans (hle _ _ hS0), (q2 g hgb2).trans (hle _ _ hP0), hA.le lm1, hmk, Rd.of_block (spare := []) ((q2 gl hlb).trans hl) (by rfl)⟩, q1, l1M, hasS_nil (hle _ _ hB0), hw, hN, ht, fun M' hM' => ⟨_, rfl, ?_⟩⟩
    refine ret_bool (Mem.le_trans lm1 hM') hQ ?_
    have := okP_iff hw hN ht hs
    by_cases c : cntP a mk
    · rw [pB_yes c, pB_yes (this.2 c)]
    · rw [pB_no c, pB_no fun h => c (this.1 h)]
  have zl : (zeroA a).length = a.ws.length := by unfold zeroA; rw [List.length_replicate]
  refine ⟨Mem.le m2, L26, _, held (cell_of hb1 2), _, held (cell_of hb1 3), via h63 ⟨g, s, r, a, _, rfl, L26 _ _ hb1, t0, t1, by omega, c1', _, rfl, L26, ?_⟩⟩
  refine via h65 ⟨gs, g, gl, gm, a.ws.length, some gb, s, r, a, 5, zeroA a, [], startA a a.to, a.top, 1, m0, rfl, .inl rfl, hw, hP0, hA0, hS0, hl0, hm0, hlm, by omega, c6, by omega, c4.2, zl, l06, l6, hasS_nil q6, fun x => ⟨fun h => (by cases h), fun ⟨q, q0, q1, q2, _⟩ => by unfold hdM zeroA at q2; rw [gi_zero] at q2; omega⟩, fun p q p0 pq q1 hp => by unfold hdM zeroA at hp; rw [gi_zero] at hp; omega, fun q _ _ => gi_zero _ _, fun M1 mk' had' hT h => ?_, fun M1 mk1 s1 had1 hT1 e1 hsR1 hHR1 _ => ?_⟩
  · refine ⟨_, rfl, Mem.le_trans l200 hT.le, ?_⟩
    rw [if_pos (by decide)]
    refine bad M1 (Mem.le_trans l20 hT.le) fun ⟨mk, hk⟩ => h ?_
    obtain ⟨mk1, x, e, es⟩ := okM_tile1 hw hk
    exact ⟨mk1, x, e, es, fun h => by cases h⟩
  refine ⟨_, rfl, Mem.le_trans l200 hT1.le, ?_⟩
  rw [if_neg (by decide)]
  have e1 : tile1 a = some (mk1, s1) := e1
  obtain ⟨n1, tt1⟩ := tile1_ok0 hw sm c6 c6' e1
  have LM : Mem.le m M1 := Mem.le_trans l20 hT1.le
  have hPM : Ptr M1 g s r a := hT1.le _ _ hP0
  have hb1 : M1 g = _ := hPM
  refine ⟨_, cell_of hb1 4, ?_⟩
  cases hc : a.cyc with
  | false =>
    rw [if_pos (by decide)]
    have nof : ∀ P : Prop, (freeP a → P) → okP a → P := fun P h ⟨mk, hk⟩ => h hk.N.f
    have ef : freeP a = (a.scan = 0 ∧ a.old = 0 ∧ a.cop = 0) := by unfold freeP; rw [hc]; rfl
    refine ⟨_, cell_of hb1 5, ?_⟩
    by_cases d1 : a.scan = 0
    case neg => rw [if_pos (by simpa using d1)]; exact bad M1 LM fun h => d1 (nof _ (fun h => (ef ▸ h).1) h)
    rw [if_neg (by simpa using d1)]
    refine ⟨_, cell_of hb1 6, ?_⟩
    by_cases d2 : a.old = 0
    case neg => rw [if_pos (by simpa using d2)]; exact bad M1 LM fun h => d2 (nof _ (fun h => (ef ▸ h).2.1) h)
    rw [if_neg (by simpa using d2)]
    refine ⟨_, cell_of hb1 7, ?_⟩
    by_cases d3 : a.cop = 0
    case neg => rw [if_pos (by simpa using d3)]; exact bad M1 LM fun h => d3 (nof _ (fun h => (ef ▸ h).2.2) h)
    rw [if_neg (by simpa using d3)]
    exact last M1 mk1 hT1.le hT1.l n1 ⟨sm, c4.1, c4.2, by omega, c6, c6', ef ▸ ⟨d1, d2, d3⟩⟩ (tileO_f e1 hc) hsR1
  | true =>
    rw [if_neg (by decide)]
    refine via h66 ⟨g, s, r, a, rfl, hPM, t0, t1, _, rfl, via h63 ⟨g, s, r, a, _, rfl, hPM, by omega, by omega, by omega, c1', _, rfl, ?_⟩⟩
    obtain ⟨S84, h84⟩ : ∃ S84 : Mem → Prop, S84 = fun M => Mem.le m0 M ∧ ∃ mk', M gl = some (rowM mk' 5) ∧ mk'.length = a.ws.length ∧ (0 ≤ a.scan → gi mk' a.scan = gi mk1 a.scan) := ⟨_, rfl⟩
    refine ⟨S84, ?_⟩
    have hS84 : S84 M1 := by rw [h84]; exact ⟨hT1.le, mk1, hT1.l, n1, fun _ => rfl⟩
    subst h84
    refine ⟨hS84, _, fun q hq => cell_of (hq.1 _ _ hP0) 5, _, fun q hq => cell_of (hq.1 _ _ hP0) 3, via h47 ⟨_, _, _, rfl, _, rfl, hS84, ?_⟩⟩
    have inS : ∀ mk, OkM a mk → a.scan = a.top ∨ 0 ≤ a.scan ∧ a.scan < a.ws.length ∧ startA a a.to ≤ a.scan ∧ a.scan < a.top ∧ gi mk1 a.scan = 1 := fun mk h => by
      obtain ⟨x1, x2⟩ := tileO_c e1 hc h.t
      obtain ⟨n2, _, _, tt2⟩ := tile2_ok hw h.N hc e1 x1
      rcases x2 with z | ⟨z1, z2, z3⟩
      · exact .inl z
      · have hg1 : gi mk1 a.scan = 1 := by
          rcases tt2 a.scan z1 with u | u
          · rw [← u.1]; exact z3
          · omega
        rcases tt1 a.scan z1 with v | ⟨v, v1, v2⟩
        · omega
        · have := v2.2.2
          have := (look_b hw a.scan).1
          exact .inr ⟨z1, z2, v1, by omega, hg1⟩
    by_cases c7 : 1 ≤ a.scan ∧ a.scan ≤ a.top
    case neg =>
      rw [decide_eq_false c7, if_pos (by decide)]
      exact bad M1 LM fun ⟨mk, h⟩ => by have := inS mk h; omega
    rw [decide_eq_true c7, if_neg (by decide)]
    refine ⟨_, fun q hq => cell_of (hq.1 _ _ hP0) 5, _, fun q hq => cell_of (hq.1 _ _ hP0) 3, ?_⟩
    by_cases c8 : a.scan = a.top
    · rw [if_neg (by simpa using c8)]
      have hscan : a.scan = a.top ∨ gi mk1 a.scan = 1 := .inl c8
      refine ⟨_, fun q hq => cell_of (hq.1 _ _ hP0) 6, via h66 ⟨g, s, r, a, rfl, hPM, t0, t1, _, rfl, hS84, via h64 ⟨g, s, r, a, _, rfl, hPM, by omega, by omega, by omega, c1', _, rfl, hS84, via h47 ⟨_, _, _, rfl, _, rfl, hS84, ?_⟩⟩⟩⟩
      by_cases d1 : startA a (1 - a.to) ≤ a.old ∧ a.old ≤ endA a (1 - a.to)
      case neg => rw [decide_eq_false d1, if_pos (by decide)]; exact bad M1 LM fun ⟨mk', h⟩ => by have := h.N.f; unfold freeP at this; rw [if_pos hc] at this; exact d1 ⟨this.1, this.2.1⟩
      rw [decide_eq_true d1, if_neg (by decide)]
      obtain ⟨d1, d1'⟩ := d1
      have far : ∀ q : Int, 0 ≤ q → gi mk1 q = 1 → q < startA a (1 - a.to) ∨ a.old ≤ q := fun q q0 hq => by
        rcases tt1 q q0 with z | ⟨z, z1, z2⟩
        · omega
        · have := z2.2.2
          have := (look_b hw q).1
          omega
      have zer : ∀ q : Int, startA a (1 - a.to) ≤ q → q < a.old → gi mk1 q = 0 := fun q z1 z2 => by
        rcases tt1 q (by omega) with z | ⟨z, _⟩
        · exact z
        · have := far q (by omega) z
          omega
      have keepS : ∀ M mk' had', StH m0 M gl gm 5 mk1 mk' had' (startA a (1 - a.to)) a.old → (Mem.le m0 M ∧ ∃ mk', M gl = some (rowM mk' 5) ∧ mk'.length = a.ws.length ∧ (0 ≤ a.scan → gi mk' a.scan = gi mk1 a.scan)) := fun M mk' had' hT => ⟨hT.le, mk', hT.l, by rw [hT.n]; exact n1, fun q0 => by
        rcases hscan with z | z
        · exact hT.o _ q0 (by omega)
        · exact hT.o _ q0 (far _ q0 z)⟩
      refine ⟨_, fun q hq => cell_of (hq.1 _ _ hP0) 6, via h65 ⟨gs, g, gl, gm, a.ws.length, some gb, s, r, a, 5, mk1, had1, startA a (1 - a.to), a.old, 2, m0, rfl, .inr rfl, hw, hP0, hA0, hS0, hl0, hm0, hlm, by omega, d1, by omega, c4.2, n1, hT1.le, hT1.l, hT1.h, hHR1, hsR1, zer, fun M mk' had' hT h => ?_, fun M mk2 s2 had' hT h1 h2 h3 h4 => ?_⟩⟩
      · refine ⟨_, rfl, keepS _ _ _ hT, ?_⟩
        rw [if_pos (by decide)]
        refine bad M (Mem.le_trans l20 hT.le) fun ⟨mk', h'⟩ => h ?_
        have ht := h'.t
        have hx := tileO_c e1 hc ht
        exact ⟨mk', a.cop, hx.1, h'.s, fun _ => rfl⟩
      refine ⟨_, rfl, keepS _ _ _ hT, ?_⟩
      rw [if_neg (by decide)]
      have h4 := h4 rfl
      subst h4
      have bs := (wk_ok hw _ _ _ _ _ _ _ (by omega) d1 (by omega) h1).s
      have n2 : mk2.length = a.ws.length := hT.n.trans n1
      have hPM2 : Ptr M g s r a := hT.le _ _ hP0
      have LM2 : Mem.le m M := Mem.le_trans l20 hT.le
      refine ⟨_, fun q hq => cell_of (hq.1 _ _ hP0) 3, _, fun q hq => cell_of (hq.1 _ _ hP0) 2, via h67 ⟨g, s, r, a, rfl, hPM2, sm, fun _ => by omega, _, rfl, keepS _ _ _ hT, via h64 ⟨g, s, r, a, _, rfl, hPM2, t0, t1, by omega, c1', _, rfl, keepS _ _ _ hT, ?_⟩⟩⟩
      have el : leftA a = a.old - startA a (1 - a.to) - a.cop := by unfold leftA; rw [if_pos hc]
      rw [el, w64 (by omega) (by omega)]
      by_cases d2 : a.top + (a.old - startA a (1 - a.to) - a.cop) ≤ endA a a.to
      case neg => rw [if_pos (by simp; omega)]; exact bad M LM2 fun ⟨mk', h⟩ => by have := h.N.f; unfold freeP at this; rw [if_pos hc] at this; omega
      rw [if_neg (by simp; omega)]
      have hN : NumP a := ⟨sm, c4.1, c4.2, by omega, c6, c6', by unfold freeP; rw [if_pos hc]; omega⟩
      have hsp : scanP a mk2 := by
        rcases hscan with z | z
        · exact .inl z
        · have lt : a.scan < a.top := by
            rcases tt1 a.scan (by omega) with y | ⟨y, y1, y2⟩
            · omega
            · have := y2.2.2
              have := (look_b hw a.scan).1
              omega
          exact .inr ⟨by omega, by omega, by rw [hT.o _ (by omega) (far _ (by omega) z)]; exact z⟩
      have ht := tileO_t e1 hc h1 hsp
      exact last M mk2 hT.le hT.l n2 hN ht h2
    · rw [if_pos (by simpa using c8)]
      refine ⟨_, _, _, fun q hq => cell_of (hq.1 _ _ hS0) 1, _, fun q hq => cell_of (hq.1 _ _ hP0) 5, po ⟨by omega, by omega, _, fun q ⟨_, mk', z1, z2, z3⟩ => by rw [cell_M z1 (by omega) (by omega), z3 (by omega)], ?_⟩⟩
      by_cases c9 : gi mk1 a.scan = 1
      case neg => rw [if_pos (by simpa using c9)]; exact bad M1 LM fun ⟨mk, h⟩ => by have := inS mk h; omega
      rw [if_neg (by simpa using c9)]
      have hscan : a.scan = a.top ∨ gi mk1 a.scan = 1 := .inr c9
      refine ⟨_, fun q hq => cell_of (hq.1 _ _ hP0) 6, via h66 ⟨g, s, r, a, rfl, hPM, t0, t1, _, rfl, hS84, via h64 ⟨g, s, r, a, _, rfl, hPM, by omega, by omega, by omega, c1', _, rfl, hS84, via h47 ⟨_, _, _, rfl, _, rfl, hS84, ?_⟩⟩⟩⟩
      by_cases d1 : startA a (1 - a.to) ≤ a.old ∧ a.old ≤ endA a (1 - a.to)
      case neg => rw [decide_eq_false d1, if_pos (by decide)]; exact bad M1 LM fun ⟨mk', h⟩ => by have := h.N.f; unfold freeP at this; rw [if_pos hc] at this; exact d1 ⟨this.1, this.2.1⟩
      rw [decide_eq_true d1, if_neg (by decide)]
      obtain ⟨d1, d1'⟩ := d1
      have far : ∀ q : Int, 0 ≤ q → gi mk1 q = 1 → q < startA a (1 - a.to) ∨ a.old ≤ q := fun q q0 hq => by
        rcases tt1 q q0 with z | ⟨z, z1, z2⟩
        · omega
        · have := z2.2.2
          have := (look_b hw q).1
          omega
      have zer : ∀ q : Int, startA a (1 - a.to) ≤ q → q < a.old → gi mk1 q = 0 := fun q z1 z2 => by
        rcases tt1 q (by omega) with z | ⟨z, _⟩
        · exact z
        · have := far q (by omega) z
          omega
      have keepS : ∀ M mk' had', StH m0 M gl gm 5 mk1 mk' had' (startA a (1 - a.to)) a.old → (Mem.le m0 M ∧ ∃ mk', M gl = some (rowM mk' 5) ∧ mk'.length = a.ws.length ∧ (0 ≤ a.scan → gi mk' a.scan = gi mk1 a.scan)) := fun M mk' had' hT => ⟨hT.le, mk', hT.l, by rw [hT.n]; exact n1, fun q0 => by
        rcases hscan with z | z
        · exact hT.o _ q0 (by omega)
        · exact hT.o _ q0 (far _ q0 z)⟩
      refine ⟨_, fun q hq => cell_of (hq.1 _ _ hP0) 6, via h65 ⟨gs, g, gl, gm, a.ws.length, some gb, s, r, a, 5, mk1, had1, startA a (1 - a.to), a.old, 2, m0, rfl, .inr rfl, hw, hP0, hA0, hS0, hl0, hm0, hlm, by omega, d1, by omega, c4.2, n1, hT1.le, hT1.l, hT1.h, hHR1, hsR1, zer, fun M mk' had' hT h => ?_, fun M mk2 s2 had' hT h1 h2 h3 h4 => ?_⟩⟩
      · refine ⟨_, rfl, keepS _ _ _ hT, ?_⟩
        rw [if_pos (by decide)]
        refine bad M (Mem.le_trans l20 hT.le) fun ⟨mk', h'⟩ => h ?_
        have ht := h'.t
        have hx := tileO_c e1 hc ht
        exact ⟨mk', a.cop, hx.1, h'.s, fun _ => rfl⟩
      refine ⟨_, rfl, keepS _ _ _ hT, ?_⟩
      rw [if_neg (by decide)]
      have h4 := h4 rfl
      subst h4
      have bs := (wk_ok hw _ _ _ _ _ _ _ (by omega) d1 (by omega) h1).s
      have n2 : mk2.length = a.ws.length := hT.n.trans n1
      have hPM2 : Ptr M g s r a := hT.le _ _ hP0
      have LM2 : Mem.le m M := Mem.le_trans l20 hT.le
      refine ⟨_, fun q hq => cell_of (hq.1 _ _ hP0) 3, _, fun q hq => cell_of (hq.1 _ _ hP0) 2, via h67 ⟨g, s, r, a, rfl, hPM2, sm, fun _ => by omega, _, rfl, keepS _ _ _ hT, via h64 ⟨g, s, r, a, _, rfl, hPM2, t0, t1, by omega, c1', _, rfl, keepS _ _ _ hT, ?_⟩⟩⟩
      have el : leftA a = a.old - startA a (1 - a.to) - a.cop := by unfold leftA; rw [if_pos hc]
      rw [el, w64 (by omega) (by omega)]
      by_cases d2 : a.top + (a.old - startA a (1 - a.to) - a.cop) ≤ endA a a.to
      case neg => rw [if_pos (by simp; omega)]; exact bad M LM2 fun ⟨mk', h⟩ => by have := h.N.f; unfold freeP at this; rw [if_pos hc] at this; omega
      rw [if_neg (by simp; omega)]
      have hN : NumP a := ⟨sm, c4.1, c4.2, by omega, c6, c6', by unfold freeP; rw [if_pos hc]; omega⟩
      have hsp : scanP a mk2 := by
        rcases hscan with z | z
        · exact .inl z
        · have lt : a.scan < a.top := by
            rcases tt1 a.scan (by omega) with y | ⟨y, y1, y2⟩
            · omega
            · have := y2.2.2
              have := (look_b hw a.scan).1
              omega
          exact .inr ⟨by omega, by omega, by rw [hT.o _ (by omega) (far _ (by omega) z)]; exact z⟩
      have ht := tileO_t e1 hc h1 hsp
      exact last M mk2 hT.le hT.l n2 hN ht h2
theorem own_nd {α : Type} [Enc α] {m : Mem} {s : Sl} {l : List α} {D : List Nat} (h : OwnL m s l D) : D.Nodup := by
  obtain ⟨_, ⟨_, _, _, h⟩ | ⟨g, t, spare, _, h, _⟩⟩ := h
  · rw [h]; exact List.nodup_nil
  · rw [h]; simp
end Go.Proofs.YtpdcjocjkbgddaaGreat.Abs
