/- The reference's Depths over the printed equations. -/
import Derived.Test.YtcbjdodehjpddaaDs
namespace Go.Proofs.Ytcbjdodehjpddaa.Abs
open Go.RowKit
set_option linter.unusedVariables false
set_option linter.unusedSimpArgs false
set_option maxRecDepth 20000

def callL (call : FuncId → Spec) (n11 : Nat) (Q : Value → Mem → Prop) (x1g : Nat) (oa : Option Addr) (on oc : Nat) (ta : Option Addr) (tn tc : Nat) (i : Int) (g31 : Nat) (v : Int) (M : Mem) : Prop :=
  ∃ y58 : Int, (Mem.cell? M ⟨g31, 1, none⟩ = some (.int .i64 y58) ∧ (call 60 [(.slice oa on oc), (.slice ta tn tc), (.int .i64 y58), (.int .i64 v)] M fun v60 m61 => (∃ (ra62 : Option Addr) (rn63 rc64 : Nat), (∃ (ra65 : Option Addr) (rn66 rc67 : Nat), (v60 = (.tuple #[(.slice ra62 rn63 rc64), (.slice ra65 rn66 rc67)]) ∧ L24_11 call n11 Q x1g ra62 rn63 rc64 ra65 rn66 rc67 ((IntKind.i64.wrap (i + (1 : Int)))) m61)))))
def chain24 (call : FuncId → Spec) (n11 : Nat) (Q : Value → Mem → Prop) (x1g : Nat) (oa : Option Addr) (on oc : Nat) (ta : Option Addr) (tn tc : Nat) (i : Int) (g31 : Nat) (n : Int) (M : Mem) : Prop :=
  ∃ y : Int, (Mem.cell? M ⟨g31, 0, none⟩ = some (.int .i64 y) ∧ (if (y == (18 : Int)) = true then callL call n11 Q x1g oa on oc ta tn tc i g31 n M else (if (y == (20 : Int)) = true then callL call n11 Q x1g oa on oc ta tn tc i g31 n M else (if (y == (21 : Int)) = true then callL call n11 Q x1g oa on oc ta tn tc i g31 n M else (if (y == (19 : Int)) = true then callL call n11 Q x1g oa on oc ta tn tc i g31 (IntKind.i64.wrap (n - (1 : Int))) M else L24_11 call n11 Q x1g oa on oc ta tn tc ((IntKind.i64.wrap (i + (1 : Int)))) M)))))
theorem ne_of_some {m : Mem} {a b : Nat} {o : Obj} (ha : m a = none) (hb : m b = some o) : a ≠ b := by
  rintro rfl
  rw [ha] at hb
  cases hb

theorem loop24 (t : Tab) (h61 : look t 61 = s61) (h60 : look t 60 = s60) {m : Mem} {Q : Value → Mem → Prop} {g1 go : Nat} {p s : Int} {ua : Option Addr} {un uc : Nat} {ca : Option Addr} {cn cc : Nat} {lc : List (Int × Int)}
    (hlc : lc.length = cn) (hcd : Rd m ca lc) (hN : cn ≤ 2 ^ 39) (hN0 : 0 < cn) :
    ∀ (f i : Nat) (st : St) (gt k c : Nat) (spare : List Value) (M : Mem), i + f = cn + 1 → InvD cn st → i ≤ st.2.length → st.2.length = k → MI m M g1 go gt #[.int .i64 p, .int .i64 s, .slice ua un uc, .slice ca cn cc] st spare c →
      Q (.slice (some ⟨go, 0, none⟩) cn cn) (m.upd go (row3 (runD lc f i st) [])) → L24_11 (look t) f Q g1 (some ⟨go, 0, none⟩) cn cn (some ⟨gt, 0, none⟩) k c (i : Int) M := by
  intro f
  induction f with
  | zero => intro i st gt k c spare M hf hI hi hk hM hq; have := hI.le; omega
  | succ f ih =>
    intro i st gt k c spare M hf hI hi hk hM hq
    have hle := hI.le
    rw [l24_11]
    refine ⟨M, Mem.le_refl _, ?_⟩
    by_cases hlt : i < k
    case neg =>
      rw [if_neg (by simp; omega)]
      refine ret_intro (le_of_upd hM.le hM.ro) ?_
      simp only [runD] at hq
      rw [if_neg (by omega)] at hq
      exact hq
    rw [if_pos (by simp; omega)]
    simp only [runD] at hq
    rw [if_pos (by omega)] at hq
    have hil : i < st.2.length := by omega
    have hIs := (hlc ▸ hI : InvD lc.length st).step hil
    have hlen := @step_len lc st i
    -- the place
    refine idx' (Rd.of_block hM.rt rfl) hk (by omega) (by omega) fun ad had hd => ?_
    refine ⟨_, hd 0 _ rfl, ?_⟩
    simp only [Int.toNat_natCast]
    obtain ⟨hp0, hp1, hp2⟩ := hI.todo st.2[i] (List.getElem_mem hil)
    have eP : st.2.getD i 0 = st.2[i] := by simp [List.getD_eq_getElem?_getD, hil]
    generalize st.2[i] = pl at *
    -- its instruction
    refine ⟨_, _, _, cell_of hM.b1 3, ?_⟩
    refine idx' (hcd.le hM.le) hlc hp0 hp1 fun ad' had' hd' => ?_
    refine ⟨_, hd' 0 _ rfl, _, hd' 1 _ rfl, ?_⟩
    have hpl : pl.toNat < lc.length := by omega
    have eX : lc.getD pl.toNat (0, 0) = lc[pl.toNat] := by simp [List.getD_eq_getElem?_getD, hpl]
    generalize lc[pl.toNat] = x at *
    refine newA_intro fun g31 m32 hg31 e32 hb32 hle32 => ?_
    refine sto (c := #[.int .i64 0, .int .i64 0]) (t := 73) hb32 rfl (by simp) fun m33 e33 h33 hne33 => ?_
    have h33 : m33 g31 = some (.cells #[.int .i64 x.1, .int .i64 x.2] 73 (0, 0)) := h33
    have hM2 : MI m m33 g1 go gt #[.int .i64 p, .int .i64 s, .slice ua un uc, .slice ca cn cc] st spare c := by
      rw [e33, e32, upd_upd]
      exact hM.push hg31
    have n31o : g31 ≠ go := ne_of_some hg31 hM.ro
    -- how many values
    refine idx' (Rd.of_block (spare := []) hM2.ro rfl) hI.len hp0 hp1 fun ad'' had'' hd'' => ?_
    refine ⟨_, hd'' 0 _ rfl, ?_⟩
    have hpl2 : pl.toNat < st.1.length := by rw [hI.len]; omega
    have eN : st.1.getD pl.toNat 0 = st.1[pl.toNat] := by simp [List.getD_eq_getElem?_getD, hpl2]
    have hnr := hI.rng _ (List.getElem_mem hpl2)
    generalize st.1[pl.toNat] = n at *
    have hstep : stepD lc st i = (let s1 := if x.1 = 18 ∨ x.1 = 24 then st else meetM cn st (IntKind.i64.wrap (pl + 1)) (IntKind.i64.wrap (n + mv x.1 x.2))
        if x.1 = 18 ∨ x.1 = 20 ∨ x.1 = 21 then meetM cn s1 x.2 n else if x.1 = 19 then meetM cn s1 x.2 (IntKind.i64.wrap (n - 1)) else s1) := by
      unfold stepD
      simp only [eP, eX, eN, hlc]
    -- the calls behind
    have back : ∀ (s1 : St) (gt1 c1 : Nat) (spare1 : List Value) (M1 : Mem), InvD cn s1 → MI m M1 g1 go gt1 #[.int .i64 p, .int .i64 s, .slice ua un uc, .slice ca cn cc] s1 spare1 c1 →
        s1 = stepD lc st i → L24_11 (look t) f Q g1 (some ⟨go, 0, none⟩) cn cn (some ⟨gt1, 0, none⟩) s1.2.length c1 (IntKind.i64.wrap ((i : Int) + (1 : Int))) M1 := by
      intro s1 gt1 c1 spare1 M1 hI1 hM1 hs1
      rw [wsucc (n := cn) (by omega) (by omega)]
      subst hs1
      exact ih (i + 1) _ _ _ _ _ _ (by omega) hI1 (by omega) rfl hM1 hq
    have tail : ∀ (s1 : St) (gt1 c1 : Nat) (spare1 : List Value) (M1 : Mem), InvD cn s1 → MI m M1 g1 go gt1 #[.int .i64 p, .int .i64 s, .slice ua un uc, .slice ca cn cc] s1 spare1 c1 → M1 g31 = some (.cells #[.int .i64 x.1, .int .i64 x.2] 73 (0, 0)) →
        stepD lc st i = (if x.1 = 18 ∨ x.1 = 20 ∨ x.1 = 21 then meetM cn s1 x.2 n else if x.1 = 19 then meetM cn s1 x.2 (IntKind.i64.wrap (n - 1)) else s1) →
        chain24 (look t) f Q g1 (some ⟨go, 0, none⟩) cn cn (some ⟨gt1, 0, none⟩) s1.2.length c1 (i : Int) g31 n M1 := by
      intro s1 gt1 c1 spare1 M1 hI1 hM1 hb1 hs1
      have hc : ∀ v, v ≤ 9223372036854775807 → stepD lc st i = meetM cn s1 x.2 v → callL (look t) f Q g1 (some ⟨go, 0, none⟩) cn cn (some ⟨gt1, 0, none⟩) s1.2.length c1 (i : Int) g31 v M1 := by
        intro v hv e
        refine ⟨_, cell_of hb1 1, ?_⟩
        rw [h60]
        have := hI1.le
        refine ⟨go, cn, cn, gt1, _, c1, s1, spare1, _, _, rfl, hI1.len, rfl, hN0, by omega, by omega, hM1.sz, hM1.ne, hM1.ro, hM1.rt, fun gt' c' spare' hs hne' hg' => ⟨_, _, _, _, _, _, rfl, ?_⟩⟩
        exact back _ _ _ _ _ (hI1.meet hv) (hM1.meet hs hne' hg') e.symm
      refine ⟨_, cell_of hb1 0, ?_⟩
      simp only [beq_iff_eq]
      by_cases c18 : x.1 = 18
      · rw [if_pos c18]; exact hc n hnr.2 (by rw [hs1, if_pos (.inl c18)])
      rw [if_neg c18]
      by_cases c20 : x.1 = 20
      · rw [if_pos c20]; exact hc n hnr.2 (by rw [hs1, if_pos (.inr (.inl c20))])
      rw [if_neg c20]
      by_cases c21 : x.1 = 21
      · rw [if_pos c21]; exact hc n hnr.2 (by rw [hs1, if_pos (.inr (.inr c21))])
      rw [if_neg c21]
      have hno : ¬ (x.1 = 18 ∨ x.1 = 20 ∨ x.1 = 21) := by rintro (h | h | h) <;> contradiction
      rw [if_neg hno] at hs1
      by_cases c19 : x.1 = 19
      · rw [if_pos c19]; exact hc _ (wrap_le _).1 (by rw [hs1, if_pos c19])
      rw [if_neg c19] at hs1
      rw [if_neg c19]
      exact back _ _ _ _ _ hI1 hM1 hs1.symm
    refine ⟨_, cell_of h33 0, ?_⟩
    by_cases c18 : x.1 = 18
    · rw [if_neg (by simpa using c18)]
      refine (hk ▸ tail st gt c spare m33 hI hM2 h33 ?_ : chain24 (look t) f Q g1 (some ⟨go, 0, none⟩) cn cn (some ⟨gt, 0, none⟩) k c (i : Int) g31 n m33)
      rw [hstep]
      simp only [c18, true_or, if_true]
    rw [if_pos (by simpa using c18)]
    refine ⟨_, cell_of h33 0, ?_⟩
    by_cases c24 : x.1 = 24
    · rw [if_neg (by simpa using c24)]
      refine (hk ▸ tail st gt c spare m33 hI hM2 h33 ?_ : chain24 (look t) f Q g1 (some ⟨go, 0, none⟩) cn cn (some ⟨gt, 0, none⟩) k c (i : Int) g31 n m33)
      rw [hstep]
      simp only [c24, or_true, if_true]
    rw [if_pos (by simpa using c24)]
    refine ⟨_, cell_of h33 0, _, cell_of h33 1, ?_⟩
    rw [h61]
    refine ⟨x, rfl, _, rfl, ?_⟩
    refine via h60 ?_
    refine ⟨go, cn, cn, gt, k, c, st, spare, _, _, rfl, hI.len, hk, hN0, by omega, by omega, hk ▸ hM2.sz, hM2.ne, hM2.ro, hM2.rt, fun gt' c' spare' hs hne' hg' => ⟨_, _, _, _, _, _, rfl, ?_⟩⟩
    refine tail _ gt' c' spare' _ (hI.meet (wrap_le _).1) (hM2.meet hs hne' hg') ?_ ?_
    · have : g31 ≠ gt' := by
        rcases hg' with rfl | hg'
        · exact ne_of_some hg31 hM.rt
        · rintro rfl; rw [h33] at hg'; cases hg'
      rw [upd_ne this, upd_ne n31o]
      exact h33
    · rw [hstep]
      simp only [c18, c24, or_self, if_false]

def s24 : Spec := fun args m Q => ∃ (p s : Int) (ua : Option Addr) (un uc : Nat) (ca : Option Addr) (cn cc : Nat) (lc : List (Int × Int)), args = [.agg #[.int .i64 p, .int .i64 s, .slice ua un uc, .slice ca cn cc]] ∧ lc.length = cn ∧ cn ≤ 2 ^ 39 ∧ Rd m ca lc ∧
  ∀ g, m g = none → Q (.slice (some ⟨g, 0, none⟩) cn cn) (m.upd g (row3 (depthsM lc) []))
theorem f24 (t : Tab) (h61 : look t 61 = s61) (h60 : look t 60 = s60) : ∀ args m Q, s24 args m Q → FA Try.prog (look t) kp24 Try.f24 args m Q := by
  rintro args m Q ⟨p, s, ua, un, uc, ca, cn, cc, lc, rfl, hlc, hN, hcd, h⟩
  rw [e24]
  refine newA_intro fun g1 m1 hg1 e1 hb1 hle1 => ?_
  refine ⟨_, _, _, cell_of hb1 3, by omega, by omega, by omega, by omega, ?_⟩
  refine newA_intro fun go m8 hgo e8 hb8 hle8 => ?_
  have hmo : m go = none := by rw [e1, upd_none] at hgo; exact hgo.2
  have h := h go hmo
  have n1o : g1 ≠ go := by rw [e1, upd_none] at hgo; exact Ne.symm hgo.1
  simp only [Int.toNat_natCast] at *
  have hz : zeroRow #[.int .i64 (0 : Int)] (cn * 1) = (flat Enc.e (List.replicate cn (0 : Int))).toArray := zeroRow_eq (0 : Int) cn
  rw [hz] at hb8 e8
  suffices key : ∀ d i, i + d = cn → ∀ m', m' = m1.upd go (row3 ((List.range i).map (fun _ => (-1 : Int)) ++ (List.replicate cn 0).drop i) []) → L24_3 (look t) (d + 1) Q g1 (some ⟨go, 0, none⟩) cn cn (i : Int) m' from
    ⟨cn + 1, key cn 0 (by omega) _ (by rw [e8]; simp [row3])⟩
  intro d
  induction d with
  | zero =>
    intro i hi m' hm'
    rw [l24_3]
    refine ⟨m', Mem.le_refl _, ?_⟩
    rw [if_neg (by simp; omega)]
    have ei : i = cn := by omega
    subst ei
    have hrow : (List.range i).map (fun _ => (-1 : Int)) ++ (List.replicate i 0).drop i = List.replicate i (-1) := by
      rw [List.drop_eq_nil_of_le (by simp), List.append_nil]
      apply List.ext_getElem
      · simp
      · intro k h1 h2; simp
    rw [hrow] at hm'
    by_cases h0 : i = 0
    · rw [if_pos (by simpa using h0)]
      refine ret_intro ?_ h
      have : depthsM lc = List.replicate i (-1) := by unfold depthsM; rw [if_pos (by omega), h0]; rfl
      rw [this, hm']
      exact upd_mono hle1 _ _
    rw [if_neg (by simpa using h0)]
    refine ⟨by omega, by omega, ?_⟩
    have hro : m' go = some (row3 (List.replicate i (-1)) []) := by rw [hm']; exact upd_same _ _ _
    refine sto1 (α := Int) (spare := []) (i := 0) (j := 0) (x := 0) hro (by rw [add_eq rfl]; rfl) rfl (by simp; omega) (by decide) rfl ?_
    refine newA_intro fun gt m16 hgt e16 hb16 hle16 => ?_
    have hto : gt ≠ go := by rw [upd_none] at hgt; exact hgt.1
    have hgt' : m' gt = none := by rw [upd_none] at hgt; exact hgt.2
    have hm1g : m1 gt = none := by rw [hm', upd_none] at hgt'; exact hgt'.2
    have ht1 : gt ≠ g1 := ne_of_some hm1g hb1
    have hmt : m gt = none := by rw [e1, upd_none] at hm1g; exact hm1g.2
    have hM : MI m m16 g1 go gt #[.int .i64 p, .int .i64 s, .slice ua un uc, .slice ca i cc] ((List.replicate i (-1)).set 0 0, [0]) [] 1 := by
      refine ⟨?_, ?_, ?_, hb16, rfl, hto, hmo, hmt⟩
      · rw [e16, hm', upd_upd]
        exact le_upd_fresh (le_upd_fresh hle1 hmo) hmt
      · rw [e16, upd_ne (Ne.symm ht1), upd_ne n1o, hm', upd_ne n1o]
        exact hb1
      · rw [e16, upd_ne (Ne.symm hto), upd_same]
    have hinv := (InvD.base i).meet (a := 0) (v := 0) (by omega)
    rw [meet_base (by omega)] at hinv
    have hd : depthsM lc = runD lc (i + 1) 0 ((List.replicate i (-1)).set 0 0, [0]) := by unfold depthsM; rw [if_neg (by omega), hlc]
    rw [hd] at h
    exact ⟨i + 1, loop24 t h61 h60 hlc hcd hN (by omega) (i + 1) 0 _ gt 1 1 [] m16 (by omega) hinv (by simp) rfl hM h⟩
  | succ d ih =>
    intro i hi m' hm'
    rw [l24_3]
    refine ⟨m', Mem.le_refl _, ?_⟩
    rw [if_pos (by simp; omega)]
    refine ⟨by omega, by omega, ?_⟩
    have hro : m' go = some (row3 ((List.range i).map (fun _ => (-1 : Int)) ++ (List.replicate cn 0).drop i) []) := by rw [hm']; exact upd_same _ _ _
    refine sto1 (α := Int) (spare := []) (i := i) (j := 0) (x := -1) hro (by rw [add_eq rfl, Int.toNat_natCast]; exact congrArg (fun x => (⟨go, x, none⟩ : Addr)) (by show 0 + i * 1 = i * 1 + 0; omega)) rfl (by simp; omega) (by decide) rfl ?_
    rw [wsucc (n := cn) (by omega) (by omega)]
    refine ih (i + 1) (by omega) _ ?_
    rw [hm', upd_upd, upd_row (fun _ => (-1 : Int)) (List.replicate cn 0) i (by simp; omega)]
end Go.Proofs.Ytcbjdodehjpddaa.Abs
