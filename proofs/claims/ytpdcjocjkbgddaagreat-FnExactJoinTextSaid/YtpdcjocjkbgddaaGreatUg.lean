/- Copying by the reference: values that are forwarded. -/
import Derived.Test.YtpdcjocjkbgddaaGreatUe
import Derived.Test.YtpdcjocjkbgddaaGreatSb
import Derived.KernelRfl
namespace Go.Proofs.YtpdcjocjkbgddaaGreat.Abs
open Go.RowKit
set_option linter.unusedVariables false
set_option linter.unusedSimpArgs false
set_option maxRecDepth 20000
def fwdT (Q : Value → Mem → Prop) (x2g x3g x4g x5g : Nat) (m279 : Mem) : Prop :=
  shN_0 (fun _ _ _ _ => True) Q m279 x2g x3g x4g x5g
theorem Wo.loc {m m2 : Mem} {s r : Sl} {a : Ar} {D : List Nat} {g : Nat} (h : Wo m s r a D) (hg : m g = none) (hb : m2 g = some (.cells (cA s r a) 29 (0, 0))) (hl : Mem.le m m2) : Im m2 g s r a D :=
  ⟨hb, h.ext fun b hb => by obtain ⟨o, ho⟩ := h.live b hb; rw [ho, hl b o ho], h.fresh hg⟩
theorem Wo.mix {m M : Mem} {s r : Sl} {a : Ar} {D : List Nat} (h : Wo M s r a D) : Wo (mixM D m M) s r a D := h.ext fun b hb => mix_in hb
/-- An arena and a value are handed back. -/
theorem fwdT_ok {Q : Value → Mem → Prop} {g1 g3 g5 g7 : Nat} {s r : Sl} {b : Ar} {D : List Nat} {M m0 : Mem} {v : Vl} (im : Im M g1 s r b D) (h3 : M g3 = some (.cells #[.int .i64 v.1, .int .i64 v.2] 58 (0, 0)))
    (h5 : M g5 = some (.cells #[.slice none 0 0, .int .i64 0, .int .i64 0, .int .i64 0, .bool false, .int .i64 0, .int .i64 0, .int .i64 0, .int .i64 0, .slice none 0 0] 29 (0, 0))) (h7 : M g7 = some (.cells #[.int .i64 0, .int .i64 0] 58 (0, 0))) (n15 : g1 ≠ g5) (n35 : g3 ≠ g5) (n57 : g5 ≠ g7) (z5 : m0 g5 = none) (z7 : m0 g7 = none) (d5 : g5 ∉ D) (d7 : g7 ∉ D)
    (hO : Off D m0 M) (hQ : ∀ m', (∀ b, b ∉ D → m' b = m0 b) → Wo m' s r b D → Q (.tuple #[vA s r b, vVl v]) m') : fwdT Q g1 g3 g5 g7 M := by
  unfold fwdT
  obtain ⟨wa, wn, wc⟩ := s
  obtain ⟨ra, rn, rc⟩ := r
  refine ⟨fun q => q g1 = M g1 ∧ q g3 = M g3, ⟨rfl, rfl⟩, _, _, _, fun q hq => cell_of (hq.1.trans im.p) 0, _, fun q hq => cell_of (hq.1.trans im.p) 1, _, fun q hq => cell_of (hq.1.trans im.p) 2, _, fun q hq => cell_of (hq.1.trans im.p) 3, _, fun q hq => cell_of (hq.1.trans im.p) 4, _, fun q hq => cell_of (hq.1.trans im.p) 5, _, fun q hq => cell_of (hq.1.trans im.p) 6, _, fun q hq => cell_of (hq.1.trans im.p) 7, _, fun q hq => cell_of (hq.1.trans im.p) 8, _, _, _, fun q hq => cell_of (hq.1.trans im.p) 9, _, fun q hq => cell_of (hq.2.trans h3) 0, _, fun q hq => cell_of (hq.2.trans h3) 1, ?_⟩
  refine sto_ar h5 fun m1 e1 q1 ne1 => ⟨⟨ne1 g1 n15, ne1 g3 n35⟩, ?_⟩
  refine sto (c := #[.int .i64 0, .int .i64 0]) (t := 58) ((ne1 g7 (Ne.symm n57)).trans h7) rfl (by simp) fun m2 e2 q2 ne2 => ?_
  have q2 : m2 g7 = some (.cells #[.int .i64 v.1, .int .i64 v.2] 58 (0, 0)) := q2
  have p5 : Ptr m2 g5 ⟨wa, wn, wc⟩ ⟨ra, rn, rc⟩ b := by unfold Ptr; rw [ne2 g5 n57]; exact q1
  refine ⟨_, _, _, cell_of p5 0, _, cell_of p5 1, _, cell_of p5 2, _, cell_of p5 3, _, cell_of p5 4, _, cell_of p5 5, _, cell_of p5 6, _, cell_of p5 7, _, cell_of p5 8, _, _, _, cell_of p5 9, _, cell_of q2 0, _, cell_of q2 1, ?_⟩
  refine ret_off ((hO.fresh z5 ne1).fresh z7 ne2) (hQ _ (fun b hb => mix_off hb) (Wo.mix (im.w.ext fun q hq => ?_)))
  rw [ne2 q (fun e => d7 (e ▸ hq)), ne1 q (fun e => d5 (e ▸ hq))]
theorem fwdL_ok (t : Tab) {Q : Value → Mem → Prop} {g1 g3 g5 g7 : Nat} {s r : Sl} {a : Ar} {D : List Nat} {m0 : Mem} {v : Vl} {T1 T2 : List Int} (hC : C0 a T1 T2) (hp : v.2 ∈ T2) (hok : okW (gw a.ws v.2) = true)
    (n13 : g1 ≠ g3) (n15 : g1 ≠ g5) (n17 : g1 ≠ g7) (n35 : g3 ≠ g5) (n37 : g3 ≠ g7) (n57 : g5 ≠ g7) (z1 : m0 g1 = none) (z3 : m0 g3 = none) (z5 : m0 g5 = none) (z7 : m0 g7 = none) (d3 : g3 ∉ D) (d5 : g5 ∉ D) (d7 : g7 ∉ D)
    (hQ : ∀ m', (∀ b, b ∉ D → m' b = m0 b) → Wo m' s r (fwdW a v.2) D → Q (.tuple #[vA s r (fwdW a v.2), vVl (v.1, a.top)]) m') :
    ∀ (d i : Nat), i + d = (szW a.ws v.2 + 1).toNat → ∀ (M : Mem), Im M g1 s r { a with ws := copyW a.ws a.top v.2 i } D → Off D m0 M → M g3 = some (.cells #[.int .i64 v.1, .int .i64 v.2] 58 (0, 0)) →
      M g5 = some (.cells #[.slice none 0 0, .int .i64 0, .int .i64 0, .int .i64 0, .bool false, .int .i64 0, .int .i64 0, .int .i64 0, .int .i64 0, .slice none 0 0] 29 (0, 0)) → M g7 = some (.cells #[.int .i64 0, .int .i64 0] 58 (0, 0)) → L116_8 (look t) (d + 1) Q g1 g3 g5 g7 a.top (szW a.ws v.2 + 1) (i : Int) M := by
  have nm := hC.nums
  have hs1 := hC.N.sm.s1
  have hl := hC.N.sm.l
  have i2 := hC.in2 hp
  have bz := szW_0 hC.wf.w v.2
  have hm := sumC_mem hC.wf.w hp hok
  have hs2 := hC.s2
  have ez : szC a.ws v.2 = szW a.ws v.2 := if_pos hok
  intro d
  induction d with
  | zero =>
    intro i hi M im hO h3 h5 h7
    rw [l116_8]
    refine ⟨M, Mem.le_refl _, ?_⟩
    rw [if_neg (by simp; omega)]
    have hi : i = (szW a.ws v.2 + 1).toNat := by omega
    subst hi
    refine ⟨_, _, _, cell_of im.p 0, _, cell_of h3 1, ?_⟩
    refine im.put_w (by omega) (by show v.2 < (copyW a.ws a.top v.2 _).length; rw [copyW_len]; omega) fun m1 o1 im1 => ?_
    rw [or_top (t := a.top) (by omega) (by omega)] at im1
    refine ⟨_, cell_of im1.p 3, ?_⟩
    show stoA m1 ⟨g1, 3, none⟩ [.int .i64 (IntKind.i64.wrap (a.top + (szW a.ws v.2 + 1)))] _
    rw [w64 (x := a.top + (szW a.ws v.2 + 1)) (by omega) (by omega)]
    refine im1.fld 3 _ { a with ws := setW (copyW a.ws a.top v.2 (szW a.ws v.2 + 1).toNat) v.2 (9223372036854775808 + a.top), top := a.top + (szW a.ws v.2 + 1) } rfl (by decide) rfl rfl rfl fun m2 o2 im2 => ⟨_, cell_of im2.p 7, ?_⟩
    show stoA m2 ⟨g1, 7, none⟩ [.int .i64 (IntKind.i64.wrap (a.cop + (szW a.ws v.2 + 1)))] _
    rw [w64 (x := a.cop + (szW a.ws v.2 + 1)) (by omega) (by omega)]
    refine im2.fld 7 _ (fwdW a v.2) rfl (by decide) rfl rfl rfl fun m3 o3 im3 => ?_
    have e3 : ∀ b, b ≠ g1 → b ∉ D → m3 b = M b := fun b hb hd => by rw [o3 b hb, o2 b hb, o1 b hd]
    refine sto (c := #[.int .i64 v.1, .int .i64 v.2]) (t := 58) ((e3 g3 (Ne.symm n13) d3).trans h3) rfl (by simp) fun m4 e4 h4 ne4 => ?_
    have h4 : m4 g3 = some (.cells #[.int .i64 v.1, .int .i64 a.top] 58 (0, 0)) := h4
    have im4 := im3.ext (m' := m4) fun q hq => ne4 q fun e => by
      rcases List.mem_cons.1 hq with h | h
      · exact n13 (h.symm.trans e)
      · exact d3 (e ▸ h)
    refine fwdT_ok (v := (v.1, a.top)) im4 h4 (by rw [ne4 g5 (Ne.symm n35), e3 g5 (Ne.symm n15) d5]; exact h5) (by rw [ne4 g7 (Ne.symm n37), e3 g7 (Ne.symm n17) d7]; exact h7) n15 n35 n57 z5 z7 d5 d7 ?_ hQ
    exact ((((hO.trans (Off.of_eq o1)).fresh z1 o2).fresh z1 o3).fresh z3 ne4)
  | succ d ih =>
    intro i hi M im hO h3 h5 h7
    rw [l116_8]
    refine ⟨M, Mem.le_refl _, ?_⟩
    rw [if_pos (by simp; omega)]
    have hAt := im.w.at
    have hsn := hAt.n
    have hlen : (copyW a.ws a.top v.2 i).length = a.ws.length := copyW_len _ _ _ _
    have hsn : (copyW a.ws a.top v.2 i).length = s.n := hsn
    have w1 : IntKind.i64.wrap (v.2 + (i : Int)) = v.2 + i := w64 (by omega) (by omega)
    have w2 : IntKind.i64.wrap (a.top + (i : Int)) = a.top + i := w64 (by omega) (by omega)
    refine ⟨Mem.le M, Mem.le_refl _, _, _, _, held (cell_of im.p 0), _, _, _, held (cell_of im.p 0), _, held (cell_of h3 1), ?_⟩
    rw [w1, w2]
    refine wd hAt.w hAt.n (by omega) (by omega) fun ad had hd => ⟨_, hd, ?_⟩
    refine im.put_w (by omega) (by show a.top + i < (copyW a.ws a.top v.2 i).length; omega) fun m1 o1 im1 => ?_
    have ew : IntKind.i64.wrap ((i : Int) + 1) = ((i + 1 : Nat) : Int) := wsucc (n := i + 1) (by omega) (by omega)
    rw [ew]
    exact ih (i + 1) (by omega) m1 im1 (hO.trans (Off.of_eq o1)) (by rw [o1 g3 d3]; exact h3) (by rw [o1 g5 d5]; exact h5) (by rw [o1 g7 d7]; exact h7)
def s116 : Spec := fun args m Q => ∃ (s r : Sl) (a : Ar) (D : List Nat) (v : Vl), args = [vA s r a, vVl v] ∧ Wo m s r a D ∧ RefIn a v ∧
  ∀ m', (∀ b, b ∉ D → m' b = m b) → Wo m' s r (fwdA a v).1 D → Q (.tuple #[vA s r (fwdA a v).1, vVl (fwdA a v).2]) m'
theorem half_of {a : Ar} {h p : Int} (s0 : 256 ≤ a.semi) (h0 : 0 ≤ h) (h1 : h ≤ 1) (p0 : startA a h ≤ p) (p1 : p < endA a h) : Int.tdiv p a.semi = h := by
  rw [startA_eq h0 h1] at p0
  rw [endA_eq h0 h1] at p1
  have : h = 0 ∨ h = 1 := by omega
  rcases this with rfl | rfl
  · rw [if_pos rfl] at p0 p1
    rw [Int.tdiv_eq_ediv_of_nonneg (by omega)]
    exact Int.ediv_eq_zero_of_lt (by omega) p1
  · rw [if_neg (by decide)] at p0 p1
    rw [Int.tdiv_eq_ediv_of_nonneg (by omega)]
    refine Int.le_antisymm ?_ ?_
    · exact Int.le_of_lt_add_one (Int.ediv_lt_of_lt_mul (by omega) (by omega))
    · exact Int.le_ediv_of_mul_le (by omega) (by omega)
theorem f116 (t : Tab) (h100 : look t 100 = s100) (h92 : look t 92 = s92) (h56 : look t 56 = s56) : ∀ args m Q, s116 args m Q → FA Tryz.prog (look t) kp116 Tryz.f116 args m Q := by
  rintro args m Q ⟨s, r, a, D, v, rfl, hW, ⟨T1, T2, hC, hv, hin⟩, hQ⟩
  show FA Tryz.prog (look t) kp116 Tryz.f116 [.agg #[.slice s.a s.n s.c, .int .i64 a.semi, .int .i64 a.to, .int .i64 a.top, .bool a.cyc, .int .i64 a.scan, .int .i64 a.old, .int .i64 a.cop, .int .i64 a.ser, .slice r.a r.n r.c], .agg #[.int .i64 v.1, .int .i64 v.2]] m Q
  rw [e116]
  have nm := hC.nums
  have hs0 := hC.N.sm.s0
  have hs1 := hC.N.sm.s1
  have ht0 := hC.N.sm.t0
  have ht1 := hC.N.sm.t1
  have hl := hC.N.sm.l
  refine newA_intro fun g1 m1 hg1 e1 hb1 hle1 => newA_intro fun g3 m2 hg3 e2 hb3 hle2 => newA_intro fun g5 m3 hg5 e3 hb5 hle3 => newA_intro fun g7 m4 hg7 e4 hb7 hle4 => ?_
  have l2 := Mem.le_trans hle1 hle2
  have l3 := Mem.le_trans l2 hle3
  have l4 := Mem.le_trans l3 hle4
  have p1 : m4 g1 = some (.cells (cA s r a) 29 (0, 0)) := hle4 _ _ (hle3 _ _ (hle2 _ _ hb1))
  have im := hW.loc hg1 p1 l4
  have h3 := hle4 _ _ (hle3 _ _ hb3)
  have h5 := hle4 _ _ hb5
  have n13 : g1 ≠ g3 := ne_of_none hg3 hb1
  have n15 : g1 ≠ g5 := ne_of_none hg5 (hle2 _ _ hb1)
  have n17 : g1 ≠ g7 := ne_of_none hg7 (hle3 _ _ (hle2 _ _ hb1))
  have n35 : g3 ≠ g5 := ne_of_none hg5 hb3
  have n37 : g3 ≠ g7 := ne_of_none hg7 (hle3 _ _ hb3)
  have n57 : g5 ≠ g7 := ne_of_none hg7 hb5
  have z3 := le_none hle1 hg3
  have z5 := le_none l2 hg5
  have z7 := le_none l3 hg7
  have d3 := hW.fresh z3
  have d5 := hW.fresh z5
  have d7 := hW.fresh z7
  have hO : Off D m m4 := Off.of_le l4
  refine ⟨Mem.le m4, Mem.le_refl _, _, held (cell_of h3 0), _, held (cell_of h3 1), via h100 ⟨v, rfl, _, rfl, Mem.le_refl _, ?_⟩⟩
  have same : fwdA a v = (a, v) → fwdT Q g1 g3 g5 g7 m4 := fun e => by
    rw [e] at hQ
    exact fwdT_ok im h3 h5 hb7 n15 n35 n57 z5 z7 d5 d7 hO hQ
  cases hr : isRefB v with
  | false =>
    rw [if_pos (by rfl)]
    exact same (by unfold fwdA; rw [if_neg (by rw [hr]; simp)])
  | true =>
    rw [if_neg (by simp)]
    refine ⟨_, held (cell_of h3 1), _, held (cell_of p1 1), by show a.semi ≠ 0; omega, _, held (cell_of p1 2), ?_⟩
    rcases hin hr with hp | hp
    · have i1 := hC.in1 hp
      rw [half_of hs0 ht0 ht1 i1.1 (by omega), w64 (x := a.to) (by omega) (by omega), if_pos (by simp)]
      exact same (by unfold fwdA; rw [if_neg (by rw [hC.other1 hp]; simp)])
    · have i2 := hC.in2 hp
      rw [half_of hs0 (by omega) (by omega) i2.1 (by omega), w64 (x := 1 - a.to) (by omega) (by omega), if_neg (by simp; omega)]
      have hAt := im.w.at
      have hsn := hAt.n
      refine ⟨_, _, _, cell_of p1 0, _, cell_of h3 1, wd hAt.w hAt.n (by omega) (by omega) fun ad had hd => ⟨_, hd _ (Mem.le_refl _), via h92 ⟨_, rfl, gw_in hC.wf.w v.2, _, _, rfl, ?_⟩⟩⟩
      cases hf : (fwd (gw a.ws v.2)).2 with
      | false =>
        rw [if_pos (by rfl)]
        have hok : okW (gw a.ws v.2) = true := by
          rcases hC.h2 v.2 hp with h | h
          · exact h
          · rw [hf] at h; cases h.1
        have bz := szW_0 hC.wf.w v.2
        refine ⟨_, _, _, cell_of p1 0, _, cell_of p1 1, _, cell_of p1 2, _, cell_of p1 3, _, cell_of p1 4, _, cell_of p1 5, _, cell_of p1 6, _, cell_of p1 7, _, cell_of p1 8, _, _, _, cell_of p1 9, _, cell_of h3 1, via h56 ⟨s, r, a, v.2, rfl, ⟨hAt, hC.wf, by omega, by omega⟩, _, _, _, rfl, _, cell_of p1 3, (szW a.ws v.2 + 1).toNat + 1, ?_⟩⟩
        have e : fwdA a v = (fwdW a v.2, (v.1, a.top)) := by unfold fwdA; rw [if_pos ⟨hr, hC.other2 hp⟩, if_neg (by rw [hf]; simp)]
        rw [e] at hQ
        rw [show IntKind.i64.wrap ((lookW a.ws v.2).2.1 + 1) = szW a.ws v.2 + 1 from w64 (by show _ ≤ szW a.ws v.2 + 1; omega) (by show szW a.ws v.2 + 1 ≤ _; omega)]
        exact fwdL_ok t hC hp hok n13 n15 n17 n35 n37 n57 hg1 z3 z5 z7 d3 d5 d7 hQ _ 0 (by omega) m4 im hO h3 h5 hb7
      | true =>
        rw [if_neg (by simp)]
        have e : fwdA a v = (a, (v.1, toW a.ws v.2)) := by unfold fwdA; rw [if_pos ⟨hr, hC.other2 hp⟩, if_pos hf]
        rw [e] at hQ
        refine sto (c := #[.int .i64 v.1, .int .i64 v.2]) (t := 58) h3 rfl (by simp) fun m5 e5 q5 ne5 => ?_
        have q5 : m5 g3 = some (.cells #[.int .i64 v.1, .int .i64 (toW a.ws v.2)] 58 (0, 0)) := q5
        have im5 := im.ext (m' := m5) fun q hq => ne5 q fun e => by
          rcases List.mem_cons.1 hq with h | h
          · exact n13 (h.symm.trans e)
          · exact d3 (e ▸ h)
        exact fwdT_ok (v := (v.1, toW a.ws v.2)) im5 q5 (by rw [ne5 g5 (Ne.symm n35)]; exact h5) (by rw [ne5 g7 (Ne.symm n37)]; exact hb7) n15 n35 n57 z5 z7 d5 d7 (hO.fresh z3 ne5) hQ
end Go.Proofs.YtpdcjocjkbgddaaGreat.Abs
/- Copying by the reference: ends of cycles, steps. -/
namespace Go.Proofs.YtpdcjocjkbgddaaGreat.Abs
open Go.RowKit
set_option linter.unusedVariables false
set_option linter.unusedSimpArgs false
set_option maxRecDepth 20000
def arT (Q : Value → Mem → Prop) (g1 g3 : Nat) (m4 : Mem) : Prop :=
  shN_2 (fun _ _ _ _ => True) Q m4 g1 g3
/-- An arena is handed back. -/
theorem arT_ok {Q : Value → Mem → Prop} {g1 g3 : Nat} {s r : Sl} {b : Ar} {D : List Nat} {M m0 : Mem} (im : Im M g1 s r b D) (h3 : M g3 = some (.cells #[.slice none 0 0, .int .i64 0, .int .i64 0, .int .i64 0, .bool false, .int .i64 0, .int .i64 0, .int .i64 0, .int .i64 0, .slice none 0 0] 29 (0, 0))) (z3 : m0 g3 = none) (d3 : g3 ∉ D)
    (hO : Off D m0 M) (hQ : ∀ m', (∀ b, b ∉ D → m' b = m0 b) → Wo m' s r b D → Q (vA s r b) m') : arT Q g1 g3 M := by
  unfold arT
  obtain ⟨wa, wn, wc⟩ := s
  obtain ⟨ra, rn, rc⟩ := r
  refine ⟨_, _, _, cell_of im.p 0, _, cell_of im.p 1, _, cell_of im.p 2, _, cell_of im.p 3, _, cell_of im.p 4, _, cell_of im.p 5, _, cell_of im.p 6, _, cell_of im.p 7, _, cell_of im.p 8, _, _, _, cell_of im.p 9, ?_⟩
  refine sto_ar h3 fun m1 e1 q1 ne1 => ?_
  have p3 : Ptr m1 g3 ⟨wa, wn, wc⟩ ⟨ra, rn, rc⟩ b := q1
  refine ⟨_, _, _, cell_of p3 0, _, cell_of p3 1, _, cell_of p3 2, _, cell_of p3 3, _, cell_of p3 4, _, cell_of p3 5, _, cell_of p3 6, _, cell_of p3 7, _, cell_of p3 8, _, _, _, cell_of p3 9, ?_⟩
  exact ret_off (hO.fresh z3 ne1) (hQ _ (fun b hb => mix_off hb) (Wo.mix (im.w.ext fun q hq => ne1 q (fun e => d3 (e ▸ hq)))))
def s76 : Spec := fun args m Q => ∃ (s r : Sl) (a : Ar) (D : List Nat), args = [vA s r a] ∧ Wo m s r a D ∧ ∀ m', (∀ b, b ∉ D → m' b = m b) → Wo m' s r (overA a) D → Q (vA s r (overA a)) m'
theorem f76 (t : Tab) : ∀ args m Q, s76 args m Q → FA Tryz.prog (look t) kp76 Tryz.f76 args m Q := by
  rintro args m Q ⟨s, r, a, D, rfl, hW, hQ⟩
  show FA Tryz.prog (look t) kp76 Tryz.f76 [.agg #[.slice s.a s.n s.c, .int .i64 a.semi, .int .i64 a.to, .int .i64 a.top, .bool a.cyc, .int .i64 a.scan, .int .i64 a.old, .int .i64 a.cop, .int .i64 a.ser, .slice r.a r.n r.c]] m Q
  rw [e76]
  refine newA_intro fun g1 m1 hg1 e1 hb1 hle1 => newA_intro fun g3 m2 hg3 e2 hb3 hle2 => ?_
  have l2 := Mem.le_trans hle1 hle2
  have p1 : m2 g1 = some (.cells (cA s r a) 29 (0, 0)) := hle2 _ _ hb1
  have im := hW.loc hg1 p1 l2
  have n13 : g1 ≠ g3 := ne_of_none hg3 hb1
  have z3 := le_none hle1 hg3
  have d3 := hW.fresh z3
  have hO : Off D m m2 := Off.of_le l2
  have same : overA a = a → arT Q g1 g3 m2 := fun e => by
    rw [e] at hQ
    exact arT_ok im hb3 z3 d3 hO hQ
  refine ⟨_, cell_of im.p 4, ?_⟩
  cases hc : a.cyc with
  | false =>
    rw [if_neg (by simp)]
    exact same (by unfold overA; rw [if_neg (by rw [hc]; simp)])
  | true =>
    rw [if_pos rfl]
    refine ⟨_, cell_of im.p 5, _, cell_of im.p 3, ?_⟩
    by_cases hs : a.scan = a.top
    · rw [if_pos (by simpa using hs)]
      have e : overA a = { a with cyc := false, scan := 0, old := 0, cop := 0 } := by unfold overA; rw [if_pos ⟨hc, hs⟩]
      rw [e] at hQ
      refine im.fld 4 _ { a with cyc := false } rfl (by decide) rfl rfl rfl fun m3 o3 im3 => ?_
      refine im3.fld 5 _ { a with cyc := false, scan := 0 } rfl (by decide) rfl rfl rfl fun m4 o4 im4 => ?_
      refine im4.fld 6 _ { a with cyc := false, scan := 0, old := 0 } rfl (by decide) rfl rfl rfl fun m5 o5 im5 => ?_
      refine im5.fld 7 _ { a with cyc := false, scan := 0, old := 0, cop := 0 } rfl (by decide) rfl rfl rfl fun m6 o6 im6 => ?_
      refine arT_ok im6 ?_ z3 d3 ((((hO.fresh hg1 o3).fresh hg1 o4).fresh hg1 o5).fresh hg1 o6) hQ
      rw [o6 g3 (Ne.symm n13), o5 g3 (Ne.symm n13), o4 g3 (Ne.symm n13), o3 g3 (Ne.symm n13)]
      exact hb3
    · rw [if_neg (by simpa using hs)]
      exact same (by unfold overA; rw [if_neg (by simp [hs])])
theorem setAll_cA {s0 r0 s r : Sl} {b0 b : Ar} : setAll (cA s0 r0 b0) 0 [.slice s.a s.n s.c, .int .i64 b.semi, .int .i64 b.to, .int .i64 b.top, .bool b.cyc, .int .i64 b.scan, .int .i64 b.old, .int .i64 b.cop, .int .i64 b.ser, .slice r.a r.n r.c] = cA s r b := by kernel_rfl
/-- The whole arena is put into its block. -/
theorem put_all {g : Nat} {s0 r0 s r : Sl} {b0 b : Ar} {D : List Nat} {M : Mem} {K : Mem → Prop} (h : Ptr M g s0 r0 b0) (hW : Wo M s r b D) (hg : g ∉ D) (hK : ∀ M', (∀ q, q ≠ g → M' q = M q) → Im M' g s r b D → K M') :
    stoA M ⟨g, 0, none⟩ [.slice s.a s.n s.c, .int .i64 b.semi, .int .i64 b.to, .int .i64 b.top, .bool b.cyc, .int .i64 b.scan, .int .i64 b.old, .int .i64 b.cop, .int .i64 b.ser, .slice r.a r.n r.c] K := by
  refine sto h rfl (by show 0 + 10 ≤ 10; decide) fun m' e q ne => hK m' ne ⟨?_, hW.ext fun b hb => ne b fun e => hg (e ▸ hb), hg⟩
  rw [setAll_cA] at q
  exact q
theorem Off.none {X : List Nat} {m M : Mem} {g : Nat} (h : Off X m M) (hg : M g = none) (hx : g ∉ X) : m g = none := by
  cases e : m g with
  | none => rfl
  | some o => have := h g o hx e; rw [hg] at this; cases this
theorem Off.keep {X : List Nat} {m M : Mem} {b : Nat} (h : Off X m M) (hb : b ∉ X) (hl : ∃ o, m b = some o) : M b = m b := by
  obtain ⟨o, ho⟩ := hl
  rw [ho, h b o hb ho]
theorem Off.at {X : List Nat} {m M : Mem} {b : Nat} {o : Obj} (h : Off X m M) (hb : b ∉ X) (ho : m b = some o) : M b = some o := h b o hb ho
theorem Off.sub {X Y : List Nat} {m M : Mem} (h : Off X m M) (hs : ∀ b ∈ X, b ∈ Y) : Off Y m M := fun b o hb e => h b o (fun hx => hb (hs b hx)) e
/-- The tag of a right value that is forwarded stands there already. -/
theorem putV_tag {a a1 : Ar} {T1 T2 Ta : List Int} (hw : a.wf) {p x : Int} {w : Vl} (v1 : valOkB (valW a.ws (p + x)) = true) (F : FwdOk a T1 T2 (valW a.ws (p + x)) a1 w Ta) (hp : p ∈ T1) (x0 : 0 ≤ x) (x1 : x ≤ szW a.ws p) (p0 : 0 ≤ p) (hl : p + x + 1 < a.ws.length) :
    putV a1 (p + x) w = { a1 with ws := setW a1.ws (p + x + 1) (uW w.2) } := by
  have hin := gw_in hw.w (p + x)
  have ht := wrap_big hin (valOk_tag v1)
  have e1 : gw a1.ws (p + x) = gw a.ws (p + x) := F.keep p hp x x0 x1
  have e2 : uW w.1 = gw a1.ws (p + x) := by
    rw [F.tag, e1]
    have h0 := hin.1
    have : (valW a.ws (p + x)).1 = gw a.ws (p + x) := w64 (by omega) (by omega)
    rw [this]
    exact uW_id h0 (by omega)
  unfold putV
  rw [e2, setW_same (by omega) (by rw [F.f.len]; omega) rfl]
def stS (call : FuncId → Spec) (n2 n6 : Nat) (Q : Value → Mem → Prop) (x1 : Int) (x2g x4g : Nat) (x6 : Int) (x7g : Nat) (x8a : Option Addr) (x8n x8c : Nat) (x9 : Int) (g167 : Nat) (m169 : Mem) : Prop :=
  (∃ (ra170 : Option Addr) (rn171 rc172 : Nat), (csN m169 x2g 0 ra170 rn171 rc172 ∧ (∃ y174 : Int, (ciN m169 x2g 1 y174 ∧ (∃ y176 : Int, (ciN m169 x2g 2 y176 ∧ (∃ y178 : Int, (ciN m169 x2g 3 y178 ∧ (∃ b180 : Bool, (cbN m169 x2g 4 b180 ∧ (∃ y182 : Int, (ciN m169 x2g 5 y182 ∧ (∃ y184 : Int, (ciN m169 x2g 6 y184 ∧ (∃ y186 : Int, (ciN m169 x2g 7 y186 ∧ (∃ y188 : Int, (ciN m169 x2g 8 y188 ∧ (∃ (ra190 : Option Addr) (rn191 rc192 : Nat), (csN m169 x2g 9 ra190 rn191 rc192 ∧ (∃ y194 : Int, (ciN m169 g167 0 y194 ∧ (∃ y196 : Int, (ciN m169 g167 1 y196 ∧ (call 116 [(.agg #[(.slice ra170 rn171 rc172), (.int .i64 y174), (.int .i64 y176), (.int .i64 y178), (.bool b180), (.int .i64 y182), (.int .i64 y184), (.int .i64 y186), (.int .i64 y188), (.slice ra190 rn191 rc192)]), (.agg #[(.int .i64 y194), (.int .i64 y196)])] m169 fun v198 m199 => (∃ (ra200 : Option Addr) (rn201 rc202 : Nat), (∃ y203 : Int, (∃ y204 : Int, (∃ y205 : Int, (∃ b206 : Bool, (∃ y207 : Int, (∃ y208 : Int, (∃ y209 : Int, (∃ y210 : Int, (∃ (ra211 : Option Addr) (rn212 rc213 : Nat), (∃ y214 : Int, (∃ y215 : Int, (v198 = (.tuple #[(.agg #[(.slice ra200 rn201 rc202), (.int .i64 y203), (.int .i64 y204), (.int .i64 y205), (.bool b206), (.int .i64 y207), (.int .i64 y208), (.int .i64 y209), (.int .i64 y210), (.slice ra211 rn212 rc213)]), (.agg #[(.int .i64 y214), (.int .i64 y215)])]) ∧ (newA m199 (.cells #[(.slice none 0 0), (.int .i64 (0 : Int)), (.int .i64 (0 : Int)), (.int .i64 (0 : Int)), (.bool false), (.int .i64 (0 : Int)), (.int .i64 (0 : Int)), (.int .i64 (0 : Int)), (.int .i64 (0 : Int)), (.slice none 0 0)] 29 (0, 0)) fun g216 m217 => (newA m217 (.cells #[(.int .i64 (0 : Int)), (.int .i64 (0 : Int))] 58 (0, 0)) fun g218 m219 => (stoA m219 ⟨g216, 0, none⟩ [(.slice ra200 rn201 rc202), (.int .i64 y203), (.int .i64 y204), (.int .i64 y205), (.bool b206), (.int .i64 y207), (.int .i64 y208), (.int .i64 y209), (.int .i64 y210), (.slice ra211 rn212 rc213)] fun m220 => (stoA m220 ⟨g218, 0, none⟩ [(.int .i64 y214), (.int .i64 y215)] fun m221 => (∃ (ra222 : Option Addr) (rn223 rc224 : Nat), (csN m221 g216 0 ra222 rn223 rc224 ∧ (∃ y226 : Int, (ciN m221 g216 1 y226 ∧ (∃ y228 : Int, (ciN m221 g216 2 y228 ∧ (∃ y230 : Int, (ciN m221 g216 3 y230 ∧ (∃ b232 : Bool, (cbN m221 g216 4 b232 ∧ (∃ y234 : Int, (ciN m221 g216 5 y234 ∧ (∃ y236 : Int, (ciN m221 g216 6 y236 ∧ (∃ y238 : Int, (ciN m221 g216 7 y238 ∧ (∃ y240 : Int, (ciN m221 g216 8 y240 ∧ (∃ (ra242 : Option Addr) (rn243 rc244 : Nat), (csN m221 g216 9 ra242 rn243 rc244 ∧ (stoA m221 ⟨x2g, 0, none⟩ [(.slice ra222 rn223 rc224), (.int .i64 y226), (.int .i64 y228), (.int .i64 y230), (.bool b232), (.int .i64 y234), (.int .i64 y236), (.int .i64 y238), (.int .i64 y240), (.slice ra242 rn243 rc244)] fun m246 => (∃ S247 : Mem → Prop, S247 m246 ∧ (∃ (ra248 : Option Addr) (rn249 rc250 : Nat), ((hsN S247 x2g 0 ra248 rn249 rc250) ∧ (∃ y252 : Int, ((hiN S247 x2g 5 y252) ∧ (optA x8a fun d254 => (0 ≤ x9 ∧ x9 < ((x8n : Nat) : Int) ∧ (∃ y255 : Int, ((∀ q256 : Mem, S247 q256 → Mem.cell? q256 (d254.add (Int.toNat x9 * 1)) = some (.int .i64 y255)) ∧ (∃ y257 : Int, ((hiN S247 g218 1 y257) ∧ (optA ra248 fun d259 => (0 ≤ (IntKind.i64.wrap ((IntKind.i64.wrap (y252 + y255)) + (1 : Int))) ∧ (IntKind.i64.wrap ((IntKind.i64.wrap (y252 + y255)) + (1 : Int))) < ((rn249 : Nat) : Int) ∧ (stoA m246 (d259.add (Int.toNat (IntKind.i64.wrap ((IntKind.i64.wrap (y252 + y255)) + (1 : Int))) * 1)) [(.int .u64 (IntKind.u64.wrap y257))] fun m260 => L75_6 call n2 n6 Q x1 x2g x4g x6 x7g x8a x8n x8c ((IntKind.i64.wrap (x9 + (1 : Int)))) m260)))))))))))))))))))))))))))))))))))))))))))))))))))))))))))))))))))))))))))))
theorem stS_ok (t : Tab) (h116 : look t 116 = s116) {Q : Value → Mem → Prop} {n2 n6 g1 g4 g7 gv : Nat} {x1 x6 p x : Int} {i : Nat} {s r sl : Sl} {D : List Nat} {M m0 : Mem} {b : Ar} {xs : List Int} {T1 T2 : List Int} (im : Im M g1 s r b D) (hO : Off D m0 M) (z1 : m0 g1 = none)
    (hv : M gv = some (.cells #[.int .i64 (valW b.ws (p + x)).1, .int .i64 (valW b.ws (p + x)).2] 58 (0, 0))) (hC : C0 b T1 T2) (hp : p ∈ T1) (hx : x ∈ slotsL (kdW b.ws p) (szW b.ws p)) (hs : b.scan = p) (hsl : Rd M sl.a xs) (hxn : xs.length = sl.n) (hi : i < sl.n) (hxi : xs.getD i 0 = x) (hsb : sl.n ≤ 2 ^ 30)
    (hslM : ∀ M', Off (g1 :: D) M M' → Rd M' sl.a xs)
    (hK : ∀ M', Off D m0 M' → Off (g1 :: D) M M' → Im M' g1 s r (putV (fwdA b (valW b.ws (p + x))).1 (p + x) (fwdA b (valW b.ws (p + x))).2) D → L75_6 (look t) n2 n6 Q x1 g1 g4 x6 g7 sl.a sl.n sl.c ((i + 1 : Nat) : Int) M') :
    stS (look t) n2 n6 Q x1 g1 g4 x6 g7 sl.a sl.n sl.c (i : Int) gv M := by
  unfold stS
  have nm := hC.nums
  have hs1 := hC.N.sm.s1
  have hl := hC.N.sm.l
  have ip := hC.in1 hp
  have sx := slots_in (size_ok hC.wf (hC.h1 _ hp)).1 hx
  obtain ⟨v1, v2⟩ := hC.v1 _ hp x hx
  obtain ⟨Ta, F⟩ := fwd_ok hC v1 v2
  refine ⟨_, _, _, cell_of im.p 0, _, cell_of im.p 1, _, cell_of im.p 2, _, cell_of im.p 3, _, cell_of im.p 4, _, cell_of im.p 5, _, cell_of im.p 6, _, cell_of im.p 7, _, cell_of im.p 8, _, _, _, cell_of im.p 9, _, cell_of hv 0, _, cell_of hv 1, ?_⟩
  refine via h116 ⟨s, r, b, D, valW b.ws (p + x), rfl, im.w, ⟨T1, T2, hC, v1, v2⟩, fun m1 o1 w1 => ⟨_, _, _, _, _, _, _, _, _, _, _, _, _, _, _, _, rfl, ?_⟩⟩
  have e1 := putV_tag hC.wf v1 F hp (by omega) (by omega) (by omega) (by omega)
  rw [e1] at hK
  have ft : (fwdA b (valW b.ws (p + x))).1.scan = p := F.f.scan.trans hs
  have fl : (fwdA b (valW b.ws (p + x))).1.ws.length = b.ws.length := F.f.len
  generalize hbb : (fwdA b (valW b.ws (p + x))).1 = b1 at w1 hK ft fl ⊢
  generalize hww : (fwdA b (valW b.ws (p + x))).2 = w at hK ⊢
  have p1 : Ptr m1 g1 s r b := by unfold Ptr; rw [o1 g1 im.g]; exact im.p
  have O1 : Off D M m1 := Off.of_eq o1
  refine newA_intro fun g2 m2 hg2 e2 hb2 hle2 => newA_intro fun g3 m3 hg3 e3 hb3 hle3 => ?_
  have n23 : g2 ≠ g3 := ne_of_none hg3 hb2
  have n12 : g1 ≠ g2 := ne_of_none hg2 p1
  have n13 : g1 ≠ g3 := ne_of_none hg3 (hle2 _ _ p1)
  have d2 := w1.fresh hg2
  have d3 := w1.fresh (le_none hle2 hg3)
  refine sto_ar (hle3 _ _ hb2) fun m4 e4 q4 ne4 => ?_
  refine sto (c := #[.int .i64 0, .int .i64 0]) (t := 58) ((ne4 g3 (Ne.symm n23)).trans hb3) rfl (by simp) fun m5 e5 q5 ne5 => ?_
  have q5 : m5 g3 = some (.cells #[.int .i64 w.1, .int .i64 w.2] 58 (0, 0)) := q5
  have p2 : Ptr m5 g2 s r b1 := by unfold Ptr; rw [ne5 g2 n23]; exact q4
  have zg2 : M g2 = none := O1.none hg2 d2
  have zg3 : M g3 = none := O1.none (le_none hle2 hg3) d3
  have O3 : Off D M m3 := O1.trans (Off.of_le (Mem.le_trans hle2 hle3))
  have O5 : Off D M m5 := (O3.fresh zg2 ne4).fresh zg3 ne5
  have w5 : Wo m5 s r b1 D := w1.ext fun q hq => by
    obtain ⟨o, ho⟩ := w1.live q hq
    rw [ne5 q fun e => d3 (e ▸ hq), ne4 q fun e => d2 (e ▸ hq), ho, hle3 _ _ (hle2 _ _ ho)]
  have p5 : Ptr m5 g1 s r b := by
    unfold Ptr
    rw [ne5 g1 n13, ne4 g1 n12]
    exact hle3 _ _ (hle2 _ _ p1)
  refine ⟨_, _, _, cell_of p2 0, _, cell_of p2 1, _, cell_of p2 2, _, cell_of p2 3, _, cell_of p2 4, _, cell_of p2 5, _, cell_of p2 6, _, cell_of p2 7, _, cell_of p2 8, _, _, _, cell_of p2 9, ?_⟩
  refine put_all p5 w5 im.g fun m6 ne6 im6 => ?_
  have q6 : m6 g3 = some (.cells #[.int .i64 w.1, .int .i64 w.2] 58 (0, 0)) := by rw [ne6 g3 (Ne.symm n13)]; exact q5
  have O6 : Off (g1 :: D) M m6 := (O5.sub fun q hq => by simp [hq]).put (by simp) ne6
  refine ⟨Mem.le m6, Mem.le_refl _, _, _, _, held (cell_of im6.p 0), _, held (cell_of im6.p 5), ?_⟩
  refine at1 (0 : Int) (fun y : Int => .int .i64 y) (fun _ => rfl) (hslM m6 O6) hxn (by omega) (by omega) fun ad had hd => ⟨_, hd, _, held (cell_of q6 1), ?_⟩
  have ei : (i : Int).toNat = i := by omega
  rw [ei, hxi, ft, w64 (x := p + x) (by omega) (by omega), w64 (x := p + x + 1) (by omega) (by omega)]
  refine im6.put_w (by omega) (by omega) fun m7 o7 im7 => ?_
  rw [wsucc (n := i + 1) (by omega) (by omega)]
  exact hK m7 (((hO.trans O5).fresh z1 ne6).trans (Off.of_eq o7)) (O6.trans (Off.of_eq fun q hq => o7 q fun h => hq (by simp [h]))) im7
theorem slots_loopS (t : Tab) (h94 : look t 94 = s94) (h116 : look t 116 = s116) (h76 : look t 76 = s76) {Q : Value → Mem → Prop} {g1 g4 g7 n2 : Nat} {s r sl : Sl} {D E : List Nat} {m0 : Mem} {a : Ar} {T2 : List Int} {x1 x6 ser : Int}
    (z1 : m0 g1 = none) (n4 : g4 ∉ g1 :: D) (n7 : g7 ∉ g1 :: D) (hE : ∀ b ∈ E, b ∉ g1 :: D) (a0 : 0 ≤ a.scan) (a1 : a.scan ≤ 8000) (hw : ∀ x ∈ a.ws, inW x.v)
    (hK : ∀ M', Off D m0 M' → Im M' g1 s r (overA (scanA a)) D → M' g4 = some (.cells #[.slice none 0 0, .int .i64 0, .int .i64 0, .int .i64 0, .bool false, .int .i64 0, .int .i64 0, .int .i64 0, .int .i64 0, .slice none 0 0] 29 (0, 0)) → L75_2 (look t) n2 Q x1 g1 g4 (IntKind.i64.wrap (x6 + 1)) M') :
    ∀ (d i : Nat), i + d = (slotsL (kdW a.ws a.scan) (szW a.ws a.scan)).length → ∀ (M : Mem) (b : Ar) (T1 : List Int), Off D m0 M → Im M g1 s r b D → C0 b T1 T2 → a.scan ∈ T1 → kdW b.ws a.scan = kdW a.ws a.scan → szW b.ws a.scan = szW a.ws a.scan → b.scan = a.scan →
      scS a.scan ((slotsL (kdW a.ws a.scan) (szW a.ws a.scan)).drop i) b = scS a.scan (slotsL (kdW a.ws a.scan) (szW a.ws a.scan)) a →
      OwnL M sl (slotsL (kdW a.ws a.scan) (szW a.ws a.scan)) E → M g7 = some (.cells #[.int .i64 (kdW a.ws a.scan), .int .i64 (szW a.ws a.scan), .int .i64 ser] 72 (0, 0)) → M g4 = some (.cells #[.slice none 0 0, .int .i64 0, .int .i64 0, .int .i64 0, .bool false, .int .i64 0, .int .i64 0, .int .i64 0, .int .i64 0, .slice none 0 0] 29 (0, 0)) →
      L75_6 (look t) n2 (d + 1) Q x1 g1 g4 x6 g7 sl.a sl.n sl.c (i : Int) M := by
  have hB : (slotsL (kdW a.ws a.scan) (szW a.ws a.scan)).length ≤ 2 ^ 30 := by
    unfold slotsL
    rw [everyK_len]
    unfold numK fromK
    have := szW_0 hw a.scan
    repeat' split
    all_goals omega
  intro d
  induction d with
  | zero =>
    intro i hi M b T1 hO im hC hp hk hz hs he hsl hb7 hb4
    have bz := szW_0 hw a.scan
    rw [l75_6]
    refine ⟨M, Mem.le_refl _, ?_⟩
    have hn := hsl.1
    rw [if_neg (by simp; omega)]
    refine ⟨_, cell_of im.p 5, _, cell_of hb7 1, ?_⟩
    rw [hs, w64 (x := a.scan + szW a.ws a.scan) (by omega) (by omega), w64 (by omega) (by omega)]
    rw [List.drop_eq_nil_of_le (by omega)] at he
    have he : b = scS a.scan (slotsL (kdW a.ws a.scan) (szW a.ws a.scan)) a := he
    refine im.fld 5 _ (scanA a) (by unfold scanA; rw [← he]; rfl) (by decide) rfl (by unfold scanA; rw [← he]) (by unfold scanA; rw [← he]) fun m1 o1 im1 => ⟨_, _, _, cell_of im1.p 0, _, cell_of im1.p 1, _, cell_of im1.p 2, _, cell_of im1.p 3, _, cell_of im1.p 4, _, cell_of im1.p 5, _, cell_of im1.p 6, _, cell_of im1.p 7, _, cell_of im1.p 8, _, _, _, cell_of im1.p 9, ?_⟩
    refine via h76 ⟨s, r, scanA a, D, rfl, im1.w, fun m2 o2 w2 => ⟨_, _, _, _, _, _, _, _, _, _, _, _, _, _, rfl, ?_⟩⟩
    have p2 : Ptr m2 g1 s r (scanA a) := by unfold Ptr; rw [o2 g1 im.g]; exact im1.p
    refine put_all p2 w2 im.g fun m3 o3 im3 => ?_
    have h4 : m3 g4 = some (.cells #[.slice none 0 0, .int .i64 0, .int .i64 0, .int .i64 0, .bool false, .int .i64 0, .int .i64 0, .int .i64 0, .int .i64 0, .slice none 0 0] 29 (0, 0)) := by
      rw [o3 g4 fun h => n4 (by simp [h]), o2 g4 fun h => n4 (by simp [h]), o1 g4 fun h => n4 (by simp [h])]
      exact hb4
    exact hK m3 (((hO.fresh z1 o1).trans (Off.of_eq o2)).fresh z1 o3) im3 h4
  | succ d ih =>
    intro i hi M b T1 hO im hC hp hk hz hs he hsl hb7 hb4
    have hn := hsl.1
    have hlt : i < (slotsL (kdW a.ws a.scan) (szW a.ws a.scan)).length := by omega
    rw [l75_6]
    refine ⟨M, Mem.le_refl _, ?_⟩
    rw [if_pos (by simp; omega)]
    generalize hx : (slotsL (kdW a.ws a.scan) (szW a.ws a.scan))[i] = x
    have hgx : (slotsL (kdW a.ws a.scan) (szW a.ws a.scan)).getD i 0 = x := by rw [List.getD_eq_getElem?_getD, List.getElem?_eq_getElem hlt]; exact hx
    have hxm : x ∈ slotsL (kdW a.ws a.scan) (szW a.ws a.scan) := hx ▸ List.getElem_mem _
    have hxb : x ∈ slotsL (kdW b.ws a.scan) (szW b.ws a.scan) := by rw [hk, hz]; exact hxm
    have sx := slots_in (size_ok hC.wf (hC.h1 _ hp)).1 hxb
    have ip := hC.in1 hp
    have nm := hC.nums
    have hl := hC.N.sm.l
    have hs1 := hC.N.sm.s1
    have w1 : IntKind.i64.wrap (a.scan + x) = a.scan + x := w64 (by omega) (by omega)
    obtain ⟨v1, v2⟩ := hC.v1 _ hp x hxb
    have hAt := im.w.at
    have hsn := hAt.n
    have rv : readV b.ws (a.scan + x) = (valW b.ws (a.scan + x), true) := by unfold readV; rw [v1]; rfl
    obtain ⟨T1', S⟩ := scan_ok (p := a.scan) (T2 := T2) [x] b T1 hC hp (by simp) (fun y hy => by simp at hy; subst hy; exact hxb)
    have e0 := S.head _ hp
    have ownM : ∀ M1 M' : Mem, Mem.le M M1 → Off (g1 :: D) M1 M' → OwnL M' sl (slotsL (kdW a.ws a.scan) (szW a.ws a.scan)) E := fun M1 M' hl1 hO1 => hsl.ext fun q hq => by
      obtain ⟨o, ho⟩ := hsl.live q hq
      rw [ho]
      exact hO1 q o (hE q hq) (hl1 q o ho)
    -- what comes behind the value was read
    have core : ∀ (M1 : Mem) (gv : Nat), Mem.le M M1 → M1 gv = some (.cells #[.int .i64 (valW b.ws (a.scan + x)).1, .int .i64 (valW b.ws (a.scan + x)).2] 58 (0, 0)) →
        stS (look t) n2 (d + 1) Q x1 g1 g4 x6 g7 sl.a sl.n sl.c (i : Int) gv M1 := fun M1 gv hl1 hv =>
      stS_ok t h116 (im.le hl1) (hO.trans (Off.of_le hl1)) z1 hv hC hp hxb hs (hsl.rd.le hl1) hn.symm (by omega) hgx (by omega) (fun M' hO1 => (ownM M1 M' hl1 hO1).rd) fun M' hO2 hO3 im' =>
        ih (i + 1) (by omega) M' _ T1' hO2 im' S.c (S.sub _ hp) ((kd_c e0).trans hk) ((sz_c e0).trans hz) (S.f.scan.trans hs) (by rw [← he, List.drop_eq_getElem_cons hlt, hx]; rfl) (ownM M1 M' hl1 hO3) (hO3.at n7 (hl1 _ _ hb7)) (hO3.at n4 (hl1 _ _ hb4))
    refine ⟨Mem.le M, Mem.le_refl _, _, _, _, held (cell_of im.p 0), _, held (cell_of im.p 5), ?_⟩
    refine at1 (0 : Int) (fun y : Int => .int .i64 y) (fun _ => rfl) hsl.rd hn.symm (by omega) (by omega) fun ad had hd => ⟨_, hd, ?_, ?_⟩
    all_goals
      have ei : (i : Int).toNat = i := by omega
      rw [ei, hgx, hs, w1]
    · refine via h94 ⟨s, b.ws, a.scan + x, rfl, hAt.n, hAt.w, hC.wf.w, hC.wf.n, by omega, by omega, ?_⟩
      rw [rv]
      refine ⟨_, _, _, rfl, Mem.le_refl _, newA_intro fun gv m1 hgv e1 hbv hle1 => ⟨hle1, ?_⟩⟩
      refine sto (c := #[.int .i64 0, .int .i64 0]) (t := 58) hbv rfl (by simp) fun m2 e2 q2 ne2 => ?_
      have l2 : Mem.le M m2 := le_other hle1 hgv ne2
      exact ⟨l2, core m2 gv l2 q2⟩
    · refine newA_intro fun gv m1 hgv e1 hbv hle1 => ⟨hle1, ?_⟩
      refine via h94 ⟨s, b.ws, a.scan + x, rfl, hAt.n, hAt.w.le hle1, hC.wf.w, hC.wf.n, by omega, by omega, ?_⟩
      rw [rv]
      refine ⟨_, _, _, rfl, hle1, ?_⟩
      refine sto (c := #[.int .i64 0, .int .i64 0]) (t := 58) hbv rfl (by simp) fun m2 e2 q2 ne2 => ?_
      have l2 : Mem.le M m2 := le_other hle1 hgv ne2
      exact ⟨l2, core m2 gv l2 q2⟩
def stT (Q : Value → Mem → Prop) (x2g x4g : Nat) (x6 : Int) (m6 : Mem) : Prop :=
  shN_7 (fun _ _ _ _ => True) Q m6 x2g x4g x6
/-- An arena and a number are handed back. -/
theorem stT_ok {Q : Value → Mem → Prop} {g1 g3 : Nat} {s r : Sl} {b : Ar} {D : List Nat} {M m0 : Mem} {k : Int} (im : Im M g1 s r b D) (h3 : M g3 = some (.cells #[.slice none 0 0, .int .i64 0, .int .i64 0, .int .i64 0, .bool false, .int .i64 0, .int .i64 0, .int .i64 0, .int .i64 0, .slice none 0 0] 29 (0, 0))) (z3 : m0 g3 = none) (d3 : g3 ∉ D)
    (hO : Off D m0 M) (hQ : ∀ m', (∀ b, b ∉ D → m' b = m0 b) → Wo m' s r b D → Q (.tuple #[vA s r b, .int .i64 k]) m') : stT Q g1 g3 k M := by
  unfold stT
  obtain ⟨wa, wn, wc⟩ := s
  obtain ⟨ra, rn, rc⟩ := r
  refine ⟨_, _, _, cell_of im.p 0, _, cell_of im.p 1, _, cell_of im.p 2, _, cell_of im.p 3, _, cell_of im.p 4, _, cell_of im.p 5, _, cell_of im.p 6, _, cell_of im.p 7, _, cell_of im.p 8, _, _, _, cell_of im.p 9, ?_⟩
  refine sto_ar h3 fun m1 e1 q1 ne1 => ?_
  have p3 : Ptr m1 g3 ⟨wa, wn, wc⟩ ⟨ra, rn, rc⟩ b := q1
  refine ⟨_, _, _, cell_of p3 0, _, cell_of p3 1, _, cell_of p3 2, _, cell_of p3 3, _, cell_of p3 4, _, cell_of p3 5, _, cell_of p3 6, _, cell_of p3 7, _, cell_of p3 8, _, _, _, cell_of p3 9, ?_⟩
  exact ret_off (hO.fresh z3 ne1) (hQ _ (fun b hb => mix_off hb) (Wo.mix (im.w.ext fun q hq => ne1 q (fun e => d3 (e ▸ hq)))))
def s75 : Spec := fun args m Q => ∃ (s r : Sl) (a : Ar) (D : List Nat) (n : Int), args = [vA s r a, .int .i64 n] ∧ Wo m s r a D ∧ Gd a ∧ 0 ≤ n ∧ n ≤ 2 ^ 20 ∧
  ∀ m' (k : Int), (∀ b, b ∉ D → m' b = m b) → Wo m' s r (stepsA n.toNat a) D → Q (.tuple #[vA s r (stepsA n.toNat a), .int .i64 k]) m'
theorem f75 (t : Tab) (h94 : look t 94 = s94) (h116 : look t 116 = s116) (h76 : look t 76 = s76) (h56 : look t 56 = s56) (h93 : look t 93 = s93) : ∀ args m Q, s75 args m Q → FA Tryz.prog (look t) kp75 Tryz.f75 args m Q := by
  rintro args m Q ⟨s, r, a, D, n, rfl, hW, hG, hn0, hn, hQ⟩
  show FA Tryz.prog (look t) kp75 Tryz.f75 [.agg #[.slice s.a s.n s.c, .int .i64 a.semi, .int .i64 a.to, .int .i64 a.top, .bool a.cyc, .int .i64 a.scan, .int .i64 a.old, .int .i64 a.cop, .int .i64 a.ser, .slice r.a r.n r.c], .int .i64 n] m Q
  rw [e75]
  refine newA_intro fun g1 m1 hg1 e1 hb1 hle1 => newA_intro fun g4 m2 hg4 e2 hb4 hle2 => ⟨n.toNat + 1, ?_⟩
  have l2 := Mem.le_trans hle1 hle2
  have p1 : m2 g1 = some (.cells (cA s r a) 29 (0, 0)) := hle2 _ _ hb1
  have im := hW.loc hg1 p1 l2
  have n14 : g1 ≠ g4 := ne_of_none hg4 hb1
  have z4 := le_none hle1 hg4
  have d4 := hW.fresh z4
  have n4 : g4 ∉ g1 :: D := fun h => by
    rcases List.mem_cons.1 h with h | h
    · exact n14 h.symm
    · exact d4 h
  have key : ∀ (f i : Nat), i + f = n.toNat → ∀ (M : Mem) (b : Ar), Im M g1 s r b D → Off D m M → Gd b → M g4 = some (.cells #[.slice none 0 0, .int .i64 0, .int .i64 0, .int .i64 0, .bool false, .int .i64 0, .int .i64 0, .int .i64 0, .int .i64 0, .slice none 0 0] 29 (0, 0)) → (∀ m' (k : Int), (∀ b, b ∉ D → m' b = m b) → Wo m' s r (stepsA f b) D → Q (.tuple #[vA s r (stepsA f b), .int .i64 k]) m') → L75_2 (look t) (f + 1) Q n g1 g4 (i : Int) M := by
    intro f
    induction f with
    | zero =>
      intro i hi M b imb hO hGb hb4 hK
      rw [l75_2]
      refine ⟨M, Mem.le_refl _, _, cell_of imb.p 4, ?_⟩
      have fin : stT Q g1 g4 (i : Int) M := stT_ok imb hb4 z4 d4 hO fun m' o w => hK m' _ o w
      cases b.cyc with
      | false => rw [if_neg (by simp)]; exact fin
      | true => rw [if_pos rfl, if_neg (by simp; omega)]; exact fin
    | succ f ih =>
      intro i hi M b imb hO hGb hb4 hK
      rw [l75_2]
      refine ⟨M, Mem.le_refl _, _, cell_of imb.p 4, ?_⟩
      rcases hGb with ⟨T1, h⟩ | ⟨T1, T2, h, hne⟩
      · rw [h.cy, if_neg (by simp)]
        rw [steps_idle _ h.cy] at hK
        exact (stT_ok imb hb4 z4 d4 hO fun m' o w => hK m' _ o w : stT Q g1 g4 (i : Int) M)
      · have hc := h.c.cy
        have hC := h.c
        rw [hc, if_pos rfl, if_pos (by simp; omega)]
        have hp : b.scan ∈ T1 := h.sc.resolve_left hne
        have ip := hC.in1 hp
        have nm := hC.nums
        have hs1 := hC.N.sm.s1
        have hl := hC.N.sm.l
        have hAt := imb.w.at
        have bz := szW_0 hC.wf.w b.scan
        refine ⟨_, _, _, cell_of imb.p 0, _, cell_of imb.p 1, _, cell_of imb.p 2, _, cell_of imb.p 3, _, cell_of imb.p 4, _, cell_of imb.p 5, _, cell_of imb.p 6, _, cell_of imb.p 7, _, cell_of imb.p 8, _, _, _, cell_of imb.p 9, _, cell_of imb.p 5, via h56 ⟨s, r, b, b.scan, rfl, ⟨hAt, hC.wf, by omega, by omega⟩, _, _, _, rfl, ?_⟩⟩
        refine newA_intro fun g6 m6 hg6 e6 hb6 hle6 => sto (c := #[.int .i64 0, .int .i64 0, .int .i64 0]) (t := 72) hb6 rfl (by simp) fun m7 e7 h7 ne7 => ?_
        have h7 : m7 g6 = some (.cells #[.int .i64 (kdW b.ws b.scan), .int .i64 (szW b.ws b.scan), .int .i64 (serW b.ws b.scan)] 72 (0, 0)) := h7
        have n6 := imb.fresh hg6
        have le7 : Mem.le M m7 := le_other hle6 hg6 ne7
        refine ⟨_, cell_of h7 0, _, cell_of h7 1, via h93 ⟨_, _, rfl, bz.1, bz.2, (size_ok hC.wf (hC.h1 _ hp)).1, fun sl M2 E hle2 hsl hE => ⟨_, _, _, rfl, (slotsL (kdW b.ws b.scan) (szW b.ws b.scan)).length + 1, ?_⟩⟩⟩
        have lM := Mem.le_trans le7 hle2
        have im2 := imb.le lM
        obtain ⟨T1', k1, k2, k3, k4⟩ := h.scan hne
        obtain ⟨o1, o2, o3, o4⟩ := k1.over
        refine slots_loopS t h94 h116 h76 (T2 := T2) (a := b) (m0 := m) (E := E) hg1 n4 n6 (fun q hq => imb.fresh (le_none le7 (hE q hq))) (by omega) (by omega) hC.wf.w (fun M' hO' imM h4' => ?_) _ 0 (by omega) M2 b T1 (hO.trans (Off.of_le lM)) im2 hC hp rfl rfl rfl rfl hsl (hle2 _ _ h7) (lM _ _ hb4)
        have ew : IntKind.i64.wrap ((i : Int) + 1) = ((i + 1 : Nat) : Int) := wsucc (n := i + 1) (by omega) (by omega)
        rw [ew]
        refine ih (i + 1) (by omega) M' _ imM hO' o1 h4' fun m' k o w => ?_
        have e : stepsA (f + 1) b = stepsA f (overA (scanA b)) := by
          conv => lhs; unfold stepsA
          rw [if_pos hc]
        rw [e] at hK
        exact hK m' k o w
  exact key n.toNat 0 (by omega) m2 a im (Off.of_le l2) hG hb4 hQ
end Go.Proofs.YtpdcjocjkbgddaaGreat.Abs
/- Copying by the reference: flips, ends, collections, what is free, what is put. -/
namespace Go.Proofs.YtpdcjocjkbgddaaGreat.Abs
open Go.RowKit
set_option linter.unusedVariables false
set_option linter.unusedSimpArgs false
set_option maxRecDepth 20000
theorem Wo.le {m m' : Mem} {s r : Sl} {a : Ar} {D : List Nat} (h : Wo m s r a D) (hl : Mem.le m m') : Wo m' s r a D := h.ext fun b hb => by
  obtain ⟨o, ho⟩ := h.live b hb
  rw [ho, hl b o ho]
theorem rgetH {m : Mem} {a : Option Addr} {l : List Vl} {i : Int} {n : Nat} {K : Addr → Prop} (h : Rd m a l) (hn : l.length = n) (h0 : 0 ≤ i) (hi : i < n)
    (hK : ∀ ad, a = some ad → (∀ q : Mem, Rd q a l → q.cell? (ad.add (i.toNat * 2)) = some (.int .i64 (l.getD i.toNat (0, 0)).1)) → (∀ q : Mem, Rd q a l → q.cell? ((ad.add (i.toNat * 2)).add 1) = some (.int .i64 (l.getD i.toNat (0, 0)).2)) → K ad) : optA a fun ad => 0 ≤ i ∧ i < (n : Int) ∧ K ad := by
  refine rget h hn h0 hi fun ad had _ _ => hK ad had (fun q hq => ?_) (fun q hq => ?_)
  · have := rget (K := fun ad => q.cell? (ad.add (i.toNat * 2)) = some (.int .i64 (l.getD i.toNat (0, 0)).1)) hq hn h0 hi fun ad _ c1 c2 => c1
    rw [had] at this
    exact this.2.2
  · have := rget (K := fun ad => q.cell? ((ad.add (i.toNat * 2)).add 1) = some (.int .i64 (l.getD i.toNat (0, 0)).2)) hq hn h0 hi fun ad _ c1 c2 => c2
    rw [had] at this
    exact this.2.2
def flK (call : FuncId → Spec) (n8 : Nat) (Q : Value → Mem → Prop) (x1g x2g : Nat) (x3 : Int) (S52 : Mem → Prop) (ra88 : Option Addr) (rn89 rc90 : Nat) (y91 y92 y93 : Int) (b94 : Bool) (y95 y96 y97 y98 : Int) (ra99 : Option Addr) (rn100 rc101 : Nat) (y102 y103 : Int) (g104 g106 : Nat) (m107 : Mem) : Prop :=
  shN_3 call Q m107 g104 ra88 rn89 rc90 y91 y92 y93 b94 y95 y96 y97 y98 ra99 rn100 rc101 S52 g106 y102 y103 x1g x3 n8 x2g
theorem flK_ok {call : FuncId → Spec} {n8 : Nat} {Q : Value → Mem → Prop} {g1 g3 ga gv i : Nat} {s r : Sl} {b b1 : Ar} {D : List Nat} {M M3 : Mem} {v : Vl} {S : Mem → Prop} (im : Im M g1 s r b D) (O : Off D M M3) (w : Wo M3 s r b1 D) (za : M ga = none) (zv : M gv = none) (da : ga ∉ D) (dv : gv ∉ D) (nav : ga ≠ gv)
    (ha : M3 ga = some (.cells #[.slice none 0 0, .int .i64 0, .int .i64 0, .int .i64 0, .bool false, .int .i64 0, .int .i64 0, .int .i64 0, .int .i64 0, .slice none 0 0] 29 (0, 0))) (hv : M3 gv = some (.cells #[.int .i64 0, .int .i64 0] 58 (0, 0))) (hS : ∀ q, Off D M q → Wo q s r b1 D → S q) (hi : i < b1.rs.length)
    (hK : ∀ M', Off (g1 :: D) M M' → Im M' g1 s r { b1 with rs := b1.rs.set i v } D → L74_8 call n8 Q g1 g3 (IntKind.i64.wrap ((i : Int) + 1)) M') :
    flK call n8 Q g1 g3 (i : Int) S s.a s.n s.c b1.semi b1.to b1.top b1.cyc b1.scan b1.old b1.cop b1.ser r.a r.n r.c v.1 v.2 ga gv M3 := by
  unfold flK
  have hk := w.at.k
  refine sto_ar ha fun m4 e4 q4 ne4 => ?_
  have O4 : Off D M m4 := O.fresh za ne4
  have w4 : Wo m4 s r b1 D := w.ext fun q hq => ne4 q fun e => da (e ▸ hq)
  refine ⟨hS _ O4 w4, ?_⟩
  refine sto (c := #[.int .i64 0, .int .i64 0]) (t := 58) ((ne4 gv (Ne.symm nav)).trans hv) rfl (by simp) fun m5 e5 q5 ne5 => ?_
  have q5 : m5 gv = some (.cells #[.int .i64 v.1, .int .i64 v.2] 58 (0, 0)) := q5
  have O5 : Off D M m5 := O4.fresh zv ne5
  have w5 : Wo m5 s r b1 D := w4.ext fun q hq => ne5 q fun e => dv (e ▸ hq)
  have pa : Ptr m5 ga s r b1 := by unfold Ptr; rw [ne5 ga nav]; exact q4
  have p5 : Ptr m5 g1 s r b := O5 _ _ im.g im.p
  have nv1 : gv ≠ g1 := fun e => by have := im.p; unfold Ptr at this; rw [← e, zv] at this; cases this
  refine ⟨_, _, _, cell_of pa 0, _, cell_of pa 1, _, cell_of pa 2, _, cell_of pa 3, _, cell_of pa 4, _, cell_of pa 5, _, cell_of pa 6, _, cell_of pa 7, _, cell_of pa 8, _, _, _, cell_of pa 9, ?_⟩
  refine put_all p5 w5 im.g fun m6 ne6 im6 => ?_
  have q6 : m6 gv = some (.cells #[.int .i64 v.1, .int .i64 v.2] 58 (0, 0)) := (ne6 gv nv1).trans q5
  refine ⟨_, _, _, cell_of im6.p 9, _, cell_of q6 0, _, cell_of q6 1, ?_⟩
  refine im6.put_r (v := v) (by omega) (by omega) fun m7 o7 im7 => ?_
  refine hK m7 ?_ im7
  exact ((O5.sub fun x hx => by simp [hx]).put (by simp) ne6).trans (Off.of_eq fun q hq => o7 q fun h => hq (by simp [h]))
theorem fl_loop (t : Tab) (h116 : look t 116 = s116) (h76 : look t 76 = s76) {Q : Value → Mem → Prop} {g1 g3 : Nat} {s r : Sl} {D : List Nat} {m0 : Mem} {T2 : List Int} (z1 : m0 g1 = none) (z3 : m0 g3 = none) (n31 : g3 ≠ g1) (d3 : g3 ∉ D) :
    ∀ (d i : Nat), i + d = r.n → r.n ≤ 2 ^ 20 → ∀ (M : Mem) (b : Ar) (T1 : List Int), Off D m0 M → Im M g1 s r b D → FlI b T1 T2 i → M g3 = some (.cells #[.slice none 0 0, .int .i64 0, .int .i64 0, .int .i64 0, .bool false, .int .i64 0, .int .i64 0, .int .i64 0, .int .i64 0, .slice none 0 0] 29 (0, 0)) →
      (∀ m', (∀ b, b ∉ D → m' b = m0 b) → Wo m' s r (overA (flR d i b)) D → Q (vA s r (overA (flR d i b))) m') → L74_8 (look t) (d + 1) Q g1 g3 (i : Int) M := by
  intro d
  induction d with
  | zero =>
    intro i hi hB M b T1 hO im hF h3 hK
    rw [l74_8]
    refine ⟨M, Mem.le_refl _, _, _, _, cell_of im.p 9, ?_⟩
    rw [if_neg (by simp; omega)]
    refine ⟨_, _, _, cell_of im.p 0, _, cell_of im.p 1, _, cell_of im.p 2, _, cell_of im.p 3, _, cell_of im.p 4, _, cell_of im.p 5, _, cell_of im.p 6, _, cell_of im.p 7, _, cell_of im.p 8, _, _, _, cell_of im.p 9, ?_⟩
    refine via h76 ⟨s, r, b, D, rfl, im.w, fun m1 o1 w1 => ⟨_, _, _, _, _, _, _, _, _, _, _, _, _, _, rfl, ?_⟩⟩
    obtain ⟨wa, wn, wc⟩ := s
    obtain ⟨ra, rn, rc⟩ := r
    refine sto_ar ((o1 g3 d3).trans h3) fun m2 e2 q2 ne2 => ?_
    have p3 : Ptr m2 g3 ⟨wa, wn, wc⟩ ⟨ra, rn, rc⟩ (overA b) := q2
    refine ⟨_, _, _, cell_of p3 0, _, cell_of p3 1, _, cell_of p3 2, _, cell_of p3 3, _, cell_of p3 4, _, cell_of p3 5, _, cell_of p3 6, _, cell_of p3 7, _, cell_of p3 8, _, _, _, cell_of p3 9, ?_⟩
    exact ret_off ((hO.trans (Off.of_eq o1)).fresh z3 ne2) (hK _ (fun b hb => mix_off hb) (Wo.mix (w1.ext fun q hq => ne2 q (fun e => d3 (e ▸ hq)))))
  | succ d ih =>
    intro i hi hB M b T1 hO im hF h3 hK
    have hAt := im.w.at
    have hk := hAt.k
    rw [l74_8]
    refine ⟨M, Mem.le_refl _, _, _, _, cell_of im.p 9, ?_⟩
    rw [if_pos (by simp; omega)]
    obtain ⟨⟨v1, v2⟩, Ta, F, sf, hlen⟩ := flS_ok (show i < b.rs.length by omega) hF
    refine ⟨fun q => q g1 = M g1 ∧ Rd q r.a b.rs, ⟨rfl, hAt.r⟩, _, _, _, fun q hq => cell_of (hq.1.trans im.p) 0, _, fun q hq => cell_of (hq.1.trans im.p) 1, _, fun q hq => cell_of (hq.1.trans im.p) 2, _, fun q hq => cell_of (hq.1.trans im.p) 3, _, fun q hq => cell_of (hq.1.trans im.p) 4, _, fun q hq => cell_of (hq.1.trans im.p) 5, _, fun q hq => cell_of (hq.1.trans im.p) 6, _, fun q hq => cell_of (hq.1.trans im.p) 7, _, fun q hq => cell_of (hq.1.trans im.p) 8, _, _, _, fun q hq => cell_of (hq.1.trans im.p) 9, _, _, _, fun q hq => cell_of (hq.1.trans im.p) 9, ?_⟩
    refine rgetH hAt.r hk (by omega) (by omega) fun ad had c1 c2 => ⟨_, fun q hq => c1 q hq.2, _, fun q hq => c2 q hq.2, ?_⟩
    have ei : (i : Int).toNat = i := by omega
    simp only [ei]
    have ew : IntKind.i64.wrap ((i : Int) + 1) = ((i + 1 : Nat) : Int) := wsucc (n := i + 1) (by omega) (by omega)
    have hS : ∀ (c : Ar), c.rs = b.rs → ∀ q, Off D M q → Wo q s r c D → (q g1 = M g1 ∧ Rd q r.a b.rs) := fun c hc q O w => ⟨(O _ _ im.g im.p).trans im.p.symm, by rw [← hc]; exact w.at.r⟩
    generalize hv : b.rs.getD i (0, 0) = v at *
    have hF1 : FlI (flS i b) Ta T2 (i + 1) := F
    have hR : RefIn b v := ⟨T1, T2, hF.c, v1, v2⟩
    have hrs : (fwdA b v).1.rs = b.rs := sf.rs
    have hfl : flS i b = { (fwdA b v).1 with rs := (fwdA b v).1.rs.set i (fwdA b v).2 } := by unfold flS; rw [hv]
    have hfr : flR (d + 1) i b = flR d (i + 1) (flS i b) := rfl
    rw [hfr] at hK
    have hi1 : i < (fwdA b v).1.rs.length := by rw [hrs]; omega
    -- what comes behind the blocks and the call
    have leaf : ∀ (ga gv : Nat) (M3 : Mem), Off D M M3 → Wo M3 s r (fwdA b v).1 D → M ga = none → M gv = none → ga ∉ D → gv ∉ D → ga ≠ gv → M3 ga = some (.cells #[.slice none 0 0, .int .i64 0, .int .i64 0, .int .i64 0, .bool false, .int .i64 0, .int .i64 0, .int .i64 0, .int .i64 0, .slice none 0 0] 29 (0, 0)) → M3 gv = some (.cells #[.int .i64 0, .int .i64 0] 58 (0, 0)) →
        flK (look t) (d + 1) Q g1 g3 (i : Int) (fun q => q g1 = M g1 ∧ Rd q r.a b.rs) s.a s.n s.c (fwdA b v).1.semi (fwdA b v).1.to (fwdA b v).1.top (fwdA b v).1.cyc (fwdA b v).1.scan (fwdA b v).1.old (fwdA b v).1.cop (fwdA b v).1.ser r.a r.n r.c (fwdA b v).2.1 (fwdA b v).2.2 ga gv M3 := by
      intro ga gv M3 O w za zv da dv nav ha hvv
      refine flK_ok im O w za zv da dv nav ha hvv (hS _ hrs) hi1 fun M' O' im' => ?_
      rw [ew]
      rw [← hfl] at im'
      refine ih (i + 1) (by omega) hB M' _ Ta ?_ im' hF1 ?_ hK
      · exact fun x o hx e => by
          by_cases e1 : x = g1
          · rw [e1, z1] at e; cases e
          · exact O' x o (by simp [e1, hx]) (hO x o hx e)
      · exact O' _ _ (by simp [n31, d3]) h3
    have S0 := hS b rfl M (Off.refl _ _) im.w
    refine ⟨?_, ?_, ?_⟩
    · refine via h116 ⟨s, r, b, D, v, rfl, im.w, hR, fun m1 o1 w1 => ⟨_, _, _, _, _, _, _, _, _, _, _, _, _, _, _, _, rfl, ?_⟩⟩
      have O1 : Off D M m1 := Off.of_eq o1
      refine ⟨hS _ hrs _ O1 w1, newA_intro fun ga m2 hga e2 hba hla => ?_, newA_intro fun gv m2 hgv e2 hbv hlv => ?_⟩
      · refine ⟨hS _ hrs _ (O1.trans (Off.of_le hla)) (w1.le hla), newA_intro fun gv m3 hgv e3 hbv hlv => ?_⟩
        have O3 := (O1.trans (Off.of_le hla)).trans (Off.of_le hlv)
        have w3 := (w1.le hla).le hlv
        refine ⟨hS _ hrs _ O3 w3, ?_⟩
        have da := w1.fresh hga
        have dv := w1.fresh (le_none hla hgv)
        exact leaf ga gv m3 O3 w3 (O1.none hga da) (O1.none (le_none hla hgv) dv) da dv (ne_of_none hgv hba) (hlv _ _ hba) hbv
      · refine ⟨hS _ hrs _ (O1.trans (Off.of_le hlv)) (w1.le hlv), newA_intro fun ga m3 hga e3 hba hla => ?_⟩
        have O3 := (O1.trans (Off.of_le hlv)).trans (Off.of_le hla)
        have w3 := (w1.le hlv).le hla
        refine ⟨hS _ hrs _ O3 w3, ?_⟩
        have dv := w1.fresh hgv
        have da := w1.fresh (le_none hlv hga)
        exact leaf ga gv m3 O3 w3 (O1.none (le_none hlv hga) da) (O1.none hgv dv) da dv (Ne.symm (ne_of_none hga hbv)) hba (hla _ _ hbv)
    · refine newA_intro fun ga m2 hga e2 hba hla => ?_
      have w2 := im.w.le hla
      have O2 : Off D M m2 := Off.of_le hla
      have da := im.w.fresh hga
      refine ⟨hS b rfl _ O2 w2, ?_, newA_intro fun gv m3 hgv e3 hbv hlv => ?_⟩
      · refine via h116 ⟨s, r, b, D, v, rfl, w2, hR, fun m1 o1 w1 => ⟨_, _, _, _, _, _, _, _, _, _, _, _, _, _, _, _, rfl, ?_⟩⟩
        have O1 := O2.trans (Off.of_eq o1)
        refine ⟨hS _ hrs _ O1 w1, newA_intro fun gv m3 hgv e3 hbv hlv => ?_⟩
        have O3 := O1.trans (Off.of_le hlv)
        have w3 := w1.le hlv
        refine ⟨hS _ hrs _ O3 w3, ?_⟩
        have dv := w1.fresh hgv
        have b1 := (o1 ga da).trans hba
        exact leaf ga gv m3 O3 w3 hga (O1.none hgv dv) da dv (ne_of_none hgv b1) (hlv _ _ b1) hbv
      · have w3 := w2.le hlv
        have O3 := O2.trans (Off.of_le hlv)
        refine ⟨hS b rfl _ O3 w3, ?_⟩
        have dv := w2.fresh hgv
        refine via h116 ⟨s, r, b, D, v, rfl, w3, hR, fun m1 o1 w1 => ⟨_, _, _, _, _, _, _, _, _, _, _, _, _, _, _, _, rfl, ?_⟩⟩
        have O1 := O3.trans (Off.of_eq o1)
        refine ⟨hS _ hrs _ O1 w1, ?_⟩
        exact leaf ga gv m1 O1 w1 hga (le_none hla hgv) da dv (ne_of_none hgv hba) ((o1 ga da).trans (hlv _ _ hba)) ((o1 gv dv).trans hbv)
    · refine newA_intro fun gv m2 hgv e2 hbv hlv => ?_
      have w2 := im.w.le hlv
      have O2 : Off D M m2 := Off.of_le hlv
      have dv := im.w.fresh hgv
      refine ⟨hS b rfl _ O2 w2, ?_, newA_intro fun ga m3 hga e3 hba hla => ?_⟩
      · refine via h116 ⟨s, r, b, D, v, rfl, w2, hR, fun m1 o1 w1 => ⟨_, _, _, _, _, _, _, _, _, _, _, _, _, _, _, _, rfl, ?_⟩⟩
        have O1 := O2.trans (Off.of_eq o1)
        refine ⟨hS _ hrs _ O1 w1, newA_intro fun ga m3 hga e3 hba hla => ?_⟩
        have O3 := O1.trans (Off.of_le hla)
        have w3 := w1.le hla
        refine ⟨hS _ hrs _ O3 w3, ?_⟩
        have da := w1.fresh hga
        have b1 := (o1 gv dv).trans hbv
        exact leaf ga gv m3 O3 w3 (O1.none hga da) hgv da dv (Ne.symm (ne_of_none hga b1)) hba (hla _ _ b1)
      · have w3 := w2.le hla
        have O3 := O2.trans (Off.of_le hla)
        refine ⟨hS b rfl _ O3 w3, ?_⟩
        have da := w2.fresh hga
        refine via h116 ⟨s, r, b, D, v, rfl, w3, hR, fun m1 o1 w1 => ⟨_, _, _, _, _, _, _, _, _, _, _, _, _, _, _, _, rfl, ?_⟩⟩
        have O1 := O3.trans (Off.of_eq o1)
        refine ⟨hS _ hrs _ O1 w1, ?_⟩
        exact leaf ga gv m1 O1 w1 (le_none hlv hga) hgv da dv (Ne.symm (ne_of_none hga hbv)) ((o1 ga da).trans hba) ((o1 gv dv).trans (hla _ _ hbv))
def s74 : Spec := fun args m Q => ∃ (s r : Sl) (a : Ar) (D : List Nat), args = [vA s r a] ∧ Wo m s r a D ∧ (∃ T1, I0 a T1) ∧ ∀ m', (∀ b, b ∉ D → m' b = m b) → Wo m' s r (flipA a) D → Q (vA s r (flipA a)) m'
theorem f74 (t : Tab) (h116 : look t 116 = s116) (h76 : look t 76 = s76) (h73 : look t 73 = s73) : ∀ args m Q, s74 args m Q → FA Tryz.prog (look t) kp74 Tryz.f74 args m Q := by
  rintro args m Q ⟨s, r, a, D, rfl, hW, ⟨T1, hI⟩, hQ⟩
  show FA Tryz.prog (look t) kp74 Tryz.f74 [.agg #[.slice s.a s.n s.c, .int .i64 a.semi, .int .i64 a.to, .int .i64 a.top, .bool a.cyc, .int .i64 a.scan, .int .i64 a.old, .int .i64 a.cop, .int .i64 a.ser, .slice r.a r.n r.c]] m Q
  rw [e74]
  refine newA_intro fun g1 m1 hg1 e1 hb1 hle1 => newA_intro fun g3 m2 hg3 e2 hb3 hle2 => ?_
  have l2 := Mem.le_trans hle1 hle2
  have p1 : m2 g1 = some (.cells (cA s r a) 29 (0, 0)) := hle2 _ _ hb1
  have im := hW.loc hg1 p1 l2
  have n13 : g1 ≠ g3 := ne_of_none hg3 hb1
  have z3 := le_none hle1 hg3
  have d3 := hW.fresh z3
  have sm := hI.N.sm
  have t0 := sm.t0
  have t1 := sm.t1
  have s0 := sm.s0
  have s1 := sm.s1
  have w1 : IntKind.i64.wrap (1 - a.to) = 1 - a.to := w64 (by omega) (by omega)
  refine ⟨_, cell_of im.p 3, im.fld 6 _ { a with old := a.top } rfl (by decide) rfl rfl rfl fun m3 o3 im3 => ⟨_, cell_of im3.p 2, ?_⟩⟩
  rw [show IntKind.i64.wrap (1 - ({ a with old := a.top } : Ar).to) = 1 - a.to from w1]
  refine im3.fld 2 _ { a with old := a.top, to := 1 - a.to } rfl (by decide) rfl rfl rfl fun m4 o4 im4 => ⟨_, _, _, cell_of im4.p 0, _, cell_of im4.p 1, _, cell_of im4.p 2, _, cell_of im4.p 3, _, cell_of im4.p 4, _, cell_of im4.p 5, _, cell_of im4.p 6, _, cell_of im4.p 7, _, cell_of im4.p 8, _, _, _, cell_of im4.p 9, _, cell_of im4.p 2, ?_⟩
  refine via h73 ⟨s, r, _, 1 - a.to, rfl, by omega, by omega, by show 0 ≤ a.semi; omega, s1, _, rfl, ?_⟩
  refine im4.fld 3 _ { a with old := a.top, to := 1 - a.to, top := startA a (1 - a.to) } rfl (by decide) rfl rfl rfl fun m5 o5 im5 => ⟨_, cell_of im5.p 3, ?_⟩
  refine im5.fld 5 _ { a with old := a.top, to := 1 - a.to, top := startA a (1 - a.to), scan := startA a (1 - a.to) } rfl (by decide) rfl rfl rfl fun m6 o6 im6 => ?_
  refine im6.fld 7 _ { a with old := a.top, to := 1 - a.to, top := startA a (1 - a.to), scan := startA a (1 - a.to), cop := 0 } rfl (by decide) rfl rfl rfl fun m7 o7 im7 => ?_
  refine im7.fld 4 _ (flip0 a) rfl (by decide) rfl rfl rfl fun m8 o8 im8 => ⟨r.n + 1, ?_⟩
  have hk := im.w.at.k
  have hr := hI.wf.r
  have hFI : FlI (flip0 a) [] T1 0 := ⟨flip0_ok hI, rfl, fun j hj => by
    have := hI.r a.rs[j] (List.getElem_mem hj)
    exact ⟨this.1, fun hr => ⟨fun e => by omega, .inr (this.2 hr)⟩⟩⟩
  have O2 : Off D m m2 := Off.of_le l2
  have O8 : Off D m m8 := (((((O2.fresh hg1 o3).fresh hg1 o4).fresh hg1 o5).fresh hg1 o6).fresh hg1 o7).fresh hg1 o8
  have h3 : m8 g3 = some (.cells #[.slice none 0 0, .int .i64 0, .int .i64 0, .int .i64 0, .bool false, .int .i64 0, .int .i64 0, .int .i64 0, .int .i64 0, .slice none 0 0] 29 (0, 0)) := by rw [o8 g3 (Ne.symm n13), o7 g3 (Ne.symm n13), o6 g3 (Ne.symm n13), o5 g3 (Ne.symm n13), o4 g3 (Ne.symm n13), o3 g3 (Ne.symm n13)]; exact hb3
  refine fl_loop t h116 h76 (T2 := T1) hg1 z3 (Ne.symm n13) d3 r.n 0 (by omega) (by omega) m8 (flip0 a) [] O8 im8 hFI h3 ?_
  have e : overA (flR r.n 0 (flip0 a)) = flipA a := by unfold flipA; rw [hk]
  rw [e]
  exact hQ
end Go.Proofs.YtpdcjocjkbgddaaGreat.Abs
/- Copying by the reference: ends, collections, what is free, what is put. -/
namespace Go.Proofs.YtpdcjocjkbgddaaGreat.Abs
open Go.RowKit
set_option linter.unusedVariables false
set_option linter.unusedSimpArgs false
set_option maxRecDepth 20000
def s117 : Spec := fun args m Q => ∃ (s r : Sl) (a : Ar) (D : List Nat), args = [vA s r a] ∧ Wo m s r a D ∧ OkC a ∧ ∀ m' (k : Int), (∀ b, b ∉ D → m' b = m b) → Wo m' s r (finA a) D → Q (.tuple #[vA s r (finA a), .int .i64 k]) m'
theorem f117 (t : Tab) (h75 : look t 75 = s75) (h76 : look t 76 = s76) : ∀ args m Q, s117 args m Q → FA Tryz.prog (look t) kp117 Tryz.f117 args m Q := by
  rintro args m Q ⟨s, r, a, D, rfl, hW, hG, hQ⟩
  show FA Tryz.prog (look t) kp117 Tryz.f117 [.agg #[.slice s.a s.n s.c, .int .i64 a.semi, .int .i64 a.to, .int .i64 a.top, .bool a.cyc, .int .i64 a.scan, .int .i64 a.old, .int .i64 a.cop, .int .i64 a.ser, .slice r.a r.n r.c]] m Q
  rw [e117]
  refine newA_intro fun g1 m1 hg1 e1 hb1 hle1 => newA_intro fun g3 m2 hg3 e2 hb3 hle2 => ?_
  have l2 := Mem.le_trans hle1 hle2
  have p1 : m2 g1 = some (.cells (cA s r a) 29 (0, 0)) := hle2 _ _ hb1
  have im := hW.loc hg1 p1 l2
  have z3 := le_none hle1 hg3
  have d3 := hW.fresh z3
  refine ⟨_, _, _, cell_of im.p 0, _, cell_of im.p 1, _, cell_of im.p 2, _, cell_of im.p 3, _, cell_of im.p 4, _, cell_of im.p 5, _, cell_of im.p 6, _, cell_of im.p 7, _, cell_of im.p 8, _, _, _, cell_of im.p 9, ?_⟩
  refine via h76 ⟨s, r, a, D, rfl, im.w, fun m3 o3 w3 => ⟨_, _, _, _, _, _, _, _, _, _, _, _, _, _, rfl, ?_⟩⟩
  refine via h75 ⟨s, r, overA a, D, 8000, rfl, w3, hG.over.1, by decide, by decide, fun m4 k o4 w4 => ⟨_, _, _, _, _, _, _, _, _, _, _, _, _, _, _, rfl, ?_⟩⟩
  have e : stepsA (8000 : Int).toNat (overA a) = finA a := rfl
  rw [e] at w4 ⊢
  obtain ⟨wa, wn, wc⟩ := s
  obtain ⟨ra, rn, rc⟩ := r
  refine sto_ar ((o4 g3 d3).trans ((o3 g3 d3).trans hb3)) fun m5 e5 q5 ne5 => ?_
  have p3 : Ptr m5 g3 ⟨wa, wn, wc⟩ ⟨ra, rn, rc⟩ (finA a) := q5
  refine ⟨_, _, _, cell_of p3 0, _, cell_of p3 1, _, cell_of p3 2, _, cell_of p3 3, _, cell_of p3 4, _, cell_of p3 5, _, cell_of p3 6, _, cell_of p3 7, _, cell_of p3 8, _, _, _, cell_of p3 9, ?_⟩
  have O4 : Off D m m4 := ((Off.of_le l2).trans (Off.of_eq o3)).trans (Off.of_eq o4)
  exact ret_off (O4.fresh z3 ne5) (hQ _ k (fun b hb => mix_off hb) (Wo.mix (w4.ext fun q hq => ne5 q (fun e => d3 (e ▸ hq)))))
def s78 : Spec := fun args m Q => ∃ (s r : Sl) (a : Ar) (D : List Nat), args = [vA s r a] ∧ Wo m s r a D ∧ OkC a ∧ ∀ m', (∀ b, b ∉ D → m' b = m b) → Wo m' s r (collA a) D → Q (vA s r (collA a)) m'
theorem f78 (t : Tab) (h117 : look t 117 = s117) (h74 : look t 74 = s74) : ∀ args m Q, s78 args m Q → FA Tryz.prog (look t) kp78 Tryz.f78 args m Q := by
  rintro args m Q ⟨s, r, a, D, rfl, hW, hG, hQ⟩
  show FA Tryz.prog (look t) kp78 Tryz.f78 [.agg #[.slice s.a s.n s.c, .int .i64 a.semi, .int .i64 a.to, .int .i64 a.top, .bool a.cyc, .int .i64 a.scan, .int .i64 a.old, .int .i64 a.cop, .int .i64 a.ser, .slice r.a r.n r.c]] m Q
  rw [e78]
  refine newA_intro fun g1 m1 hg1 e1 hb1 hle1 => newA_intro fun g3 m2 hg3 e2 hb3 hle2 => ?_
  have l2 := Mem.le_trans hle1 hle2
  have p1 : m2 g1 = some (.cells (cA s r a) 29 (0, 0)) := hle2 _ _ hb1
  have im := hW.loc hg1 p1 l2
  have n13 : g1 ≠ g3 := ne_of_none hg3 hb1
  have z3 := le_none hle1 hg3
  have d3 := hW.fresh z3
  obtain ⟨hI, _⟩ := hG.fin
  obtain ⟨T1, hI1⟩ := hI
  obtain ⟨k1, _⟩ := flip_gd hI1
  refine ⟨_, _, _, cell_of im.p 0, _, cell_of im.p 1, _, cell_of im.p 2, _, cell_of im.p 3, _, cell_of im.p 4, _, cell_of im.p 5, _, cell_of im.p 6, _, cell_of im.p 7, _, cell_of im.p 8, _, _, _, cell_of im.p 9, ?_⟩
  refine via h117 ⟨s, r, a, D, rfl, im.w, hG, fun m3 k o3 w3 => ⟨_, _, _, _, _, _, _, _, _, _, _, _, _, _, _, rfl, ?_⟩⟩
  have p3 : Ptr m3 g1 s r a := by unfold Ptr; rw [o3 g1 im.g]; exact im.p
  refine put_all p3 w3 im.g fun m4 o4 im4 => ⟨_, _, _, cell_of im4.p 0, _, cell_of im4.p 1, _, cell_of im4.p 2, _, cell_of im4.p 3, _, cell_of im4.p 4, _, cell_of im4.p 5, _, cell_of im4.p 6, _, cell_of im4.p 7, _, cell_of im4.p 8, _, _, _, cell_of im4.p 9, ?_⟩
  refine via h74 ⟨s, r, finA a, D, rfl, im4.w, ⟨T1, hI1⟩, fun m5 o5 w5 => ⟨_, _, _, _, _, _, _, _, _, _, _, _, _, _, rfl, ?_⟩⟩
  have p5 : Ptr m5 g1 s r (finA a) := by unfold Ptr; rw [o5 g1 im.g]; exact im4.p
  refine put_all p5 w5 im.g fun m6 o6 im6 => ⟨_, _, _, cell_of im6.p 0, _, cell_of im6.p 1, _, cell_of im6.p 2, _, cell_of im6.p 3, _, cell_of im6.p 4, _, cell_of im6.p 5, _, cell_of im6.p 6, _, cell_of im6.p 7, _, cell_of im6.p 8, _, _, _, cell_of im6.p 9, ?_⟩
  refine via h117 ⟨s, r, _, D, rfl, im6.w, k1.okC, fun m7 k7 o7 w7 => ⟨_, _, _, _, _, _, _, _, _, _, _, _, _, _, _, rfl, ?_⟩⟩
  have p7 : Ptr m7 g1 s r (flipA (finA a)) := by unfold Ptr; rw [o7 g1 im.g]; exact im6.p
  refine put_all p7 w7 im.g fun m8 o8 im8 => ?_
  have h8 : m8 g3 = some (.cells #[.slice none 0 0, .int .i64 0, .int .i64 0, .int .i64 0, .bool false, .int .i64 0, .int .i64 0, .int .i64 0, .int .i64 0, .slice none 0 0] 29 (0, 0)) := by
    rw [o8 g3 (Ne.symm n13), o7 g3 d3, o6 g3 (Ne.symm n13), o5 g3 d3, o4 g3 (Ne.symm n13), o3 g3 d3]; exact hb3
  have O8 : Off D m m8 := ((((((Off.of_le l2).trans (Off.of_eq o3)).fresh hg1 o4).trans (Off.of_eq o5)).fresh hg1 o6).trans (Off.of_eq o7)).fresh hg1 o8
  exact (arT_ok im8 h8 z3 d3 O8 hQ : arT Q g1 g3 m8)
def s77 : Spec := fun args m Q => ∃ (s r : Sl) (a : Ar), args = [vA s r a] ∧ NumP a ∧ Q (.int .i64 (freeA a)) m
theorem f77 (t : Tab) (h90 : look t 90 = s90) (h73 : look t 73 = s73) : ∀ args m Q, s77 args m Q → FA Tryz.prog (look t) kp77 Tryz.f77 args m Q := by
  rintro args m Q ⟨s, r, a, rfl, hN, hQ⟩
  show FA Tryz.prog (look t) kp77 Tryz.f77 [.agg #[.slice s.a s.n s.c, .int .i64 a.semi, .int .i64 a.to, .int .i64 a.top, .bool a.cyc, .int .i64 a.scan, .int .i64 a.old, .int .i64 a.cop, .int .i64 a.ser, .slice r.a r.n r.c]] m Q
  rw [e77]
  have sm := hN.sm
  have t0 := sm.t0
  have t1 := sm.t1
  have s0 := sm.s0
  have s1 := sm.s1
  have hh := halves hN
  have e1 := endA_b (a := a) (h := a.to) t0 t1 (by omega) s1
  have hl := sm.l
  have hf := hN.f
  refine newA_intro fun g1 m2 hg1 e2 hb1 hle2 => ?_
  have p1 : Ptr m2 g1 s r a := hb1
  refine ⟨Mem.le m2, Mem.le_refl _, _, _, _, held (cell_of p1 0), _, held (cell_of p1 1), _, held (cell_of p1 2), _, held (cell_of p1 3), _, held (cell_of p1 4), _, held (cell_of p1 5), _, held (cell_of p1 6), _, held (cell_of p1 7), _, held (cell_of p1 8), _, _, _, held (cell_of p1 9), _, held (cell_of p1 3), via h90 ⟨s, r, a, rfl, t0, t1, by omega, s1, _, rfl, Mem.le_refl _, _, cell_of p1 4, ?_⟩⟩
  have w1 : IntKind.i64.wrap (endA a a.to - a.top) = endA a a.to - a.top := w64 (by omega) (by omega)
  cases hc : a.cyc with
  | false =>
    rw [if_neg (by simp)]
    have ef : freeA a = endA a a.to - a.top := by unfold freeA leftA; rw [hc, if_neg (by simp)]; omega
    rw [w1]
    rw [ef] at hQ
    exact ret_intro hle2 hQ
  | true =>
    unfold freeP at hf
    rw [if_pos hc] at hf
    rw [if_pos rfl]
    refine ⟨Mem.le m2, Mem.le_refl _, _, held (cell_of p1 6), _, _, _, held (cell_of p1 0), _, held (cell_of p1 1), _, held (cell_of p1 2), _, held (cell_of p1 3), _, held (cell_of p1 4), _, held (cell_of p1 5), _, held (cell_of p1 6), _, held (cell_of p1 7), _, held (cell_of p1 8), _, _, _, held (cell_of p1 9), _, held (cell_of p1 2), _, held (cell_of p1 7), ?_⟩
    rw [w64 (x := 1 - a.to) (by omega) (by omega)]
    refine via h73 ⟨s, r, a, 1 - a.to, rfl, by omega, by omega, by omega, s1, _, rfl, Mem.le_refl _, ?_⟩
    have ef : freeA a = endA a a.to - a.top - (a.old - startA a (1 - a.to) - a.cop) := by unfold freeA leftA; rw [hc, if_pos rfl]
    rw [w1, w64 (x := a.old - startA a (1 - a.to)) (by omega) (by omega), w64 (x := a.old - startA a (1 - a.to) - a.cop) (by omega) (by omega), w64 (by omega) (by omega)]
    rw [ef] at hQ
    exact ret_intro hle2 hQ
def s46 : Spec := fun args m Q => ∃ (s r : Sl) (a : Ar) (D : List Nat) (i : Int) (v : Vl), args = [vA s r a, .int .i64 i, vVl v] ∧ Wo m s r a D ∧ 0 ≤ i ∧ i + 1 < a.ws.length ∧ a.ws.length ≤ 2 ^ 20 ∧ ∀ m', (∀ b, b ∉ D → m' b = m b) → Wo m' s r (putV a i v) D → Q (vA s r (putV a i v)) m'
theorem f46 (t : Tab) : ∀ args m Q, s46 args m Q → FA Tryz.prog (look t) kp46 Tryz.f46 args m Q := by
  rintro args m Q ⟨s, r, a, D, i, v, rfl, hW, i0, i1, hl, hQ⟩
  show FA Tryz.prog (look t) kp46 Tryz.f46 [.agg #[.slice s.a s.n s.c, .int .i64 a.semi, .int .i64 a.to, .int .i64 a.top, .bool a.cyc, .int .i64 a.scan, .int .i64 a.old, .int .i64 a.cop, .int .i64 a.ser, .slice r.a r.n r.c], .int .i64 i, .agg #[.int .i64 v.1, .int .i64 v.2]] m Q
  rw [e46]
  refine newA_intro fun g1 m1 hg1 e1 hb1 hle1 => newA_intro fun gv m2 hgv e2 hbv hle2 => newA_intro fun g3 m3 hg3 e3 hb3 hle3 => ?_
  have l2 := Mem.le_trans hle1 hle2
  have l3 := Mem.le_trans l2 hle3
  have p1 : m3 g1 = some (.cells (cA s r a) 29 (0, 0)) := hle3 _ _ (hle2 _ _ hb1)
  have im := hW.loc hg1 p1 l3
  have n13 : g1 ≠ g3 := ne_of_none hg3 (hle2 _ _ hb1)
  have z3 := le_none l2 hg3
  have d3 := hW.fresh z3
  have dv := hW.fresh (le_none hle1 hgv)
  have hbv3 := hle3 _ _ hbv
  have w1 : IntKind.i64.wrap (i + 1) = i + 1 := w64 (by omega) (by omega)
  refine ⟨_, _, _, cell_of im.p 0, _, cell_of hbv3 0, ?_⟩
  refine im.put_w i0 (by omega) fun m4 o4 im4 => ?_
  refine ⟨_, _, _, cell_of im4.p 0, _, cell_of ((o4 gv dv).trans hbv3) 1, ?_⟩
  rw [w1]
  refine im4.put_w (by omega) (by show i + 1 < ((setW a.ws _ _).length : Int); rw [setW_len]; exact i1) fun m5 o5 im5 => ?_
  have h5 : m5 g3 = some (.cells #[.slice none 0 0, .int .i64 0, .int .i64 0, .int .i64 0, .bool false, .int .i64 0, .int .i64 0, .int .i64 0, .int .i64 0, .slice none 0 0] 29 (0, 0)) := by rw [o5 g3 d3, o4 g3 d3]; exact hb3
  have O5 : Off D m m5 := ((Off.of_le l3).trans (Off.of_eq o4)).trans (Off.of_eq o5)
  exact (arT_ok (b := putV a i v) im5 h5 z3 d3 O5 hQ : arT Q g1 g3 m5)
end Go.Proofs.YtpdcjocjkbgddaaGreat.Abs
