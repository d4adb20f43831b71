/- The program's Depths over the printed equations: it comes to the same as the reference's. -/
import Derived.Test.YtcbjdodehjpddaaDt
namespace Go.Proofs.Ytcbjdodehjpddaa.Abs
open Go.RowKit
set_option linter.unusedVariables false
set_option linter.unusedSimpArgs false
set_option maxRecDepth 20000

def chain25 (call : FuncId → Spec) (n11 : Nat) (Q : Value → Mem → Prop) (x1g f0 f1 : Nat) (i : Int) (g53 : Nat) (y42 y63 : Int) (M : Mem) : Prop :=
  (∃ y77 : Int, (Mem.cell? M ⟨g53, 0, none⟩ = some (.int .i64 y77) ∧ (call 53 [(.int .i64 y77)] M fun v79 m80 => (∃ b81 : Bool, (v79 = (.bool b81) ∧ (if b81 = true then (∃ S82 : Mem → Prop, S82 m80 ∧ (∃ y83 : Int, ((∀ q84 : Mem, S82 q84 → Mem.cell? q84 ⟨g53, 1, none⟩ = some (.int .i64 y83)) ∧ (∃ (ra85 : Option Addr) (rn86 rc87 : Nat), ((∀ q88 : Mem, S82 q88 → Mem.cell? q88 ⟨f0, 0, none⟩ = some (.slice ra85 rn86 rc87)) ∧ (optA ra85 fun d89 => (0 ≤ y42 ∧ y42 < (rn86 : Int) ∧ (∃ y90 : Int, ((∀ q91 : Mem, S82 q91 → Mem.cell? q91 (d89.add (Int.toNat y42 * 1)) = some (.int .i64 y90)) ∧ (call 62 [(.int .i64 y83), (.int .i64 (IntKind.i64.wrap (y90 + y63))), (.pointer (some ⟨f0, 0, none⟩)), (.pointer (some ⟨f1, 0, none⟩))] m80 fun v92 m93 => (v92 = (.tuple #[]) ∧ (S82 m93 ∧ L25_11 call n11 Q x1g f0 f1 f0 f1 ((IntKind.i64.wrap (i + (1 : Int)))) m93)))))))))))) else L25_11 call n11 Q x1g f0 f1 f0 f1 ((IntKind.i64.wrap (i + (1 : Int)))) m80))))))

theorem meet_keep {N : Nat} {st : St} {a v : Int} {q : Nat} (h : 0 ≤ st.1.getD q 0) (hq : q < st.1.length) : (meetM N st a v).1.getD q 0 = st.1.getD q 0 := by
  unfold meetM
  split
  · rename_i hc
    have : a.toNat ≠ q := by rintro rfl; omega
    simp only [List.getD_eq_getElem?_getD, List.getElem?_set_ne this]
  · rfl

structure MJ (m M : Mem) (g1 f0 f1 go gt cn : Nat) (bx : Array Value) (st : St) (spare : List Value) (c : Nat) : Prop where
  mi : MI m M g1 go gt bx st spare c
  b0 : M f0 = some (box44 go cn cn)
  b2 : M f1 = some (box44 gt st.2.length c)
  ne01 : f0 ≠ f1
  e0 : m f0 = none
  e1 : m f1 = none
section
variable {m M : Mem} {g1 f0 f1 go gt cn : Nat} {bx : Array Value} {st : St} {spare : List Value} {c : Nat}
theorem MJ.push (h : MJ m M g1 f0 f1 go gt cn bx st spare c) {g : Nat} {o : Obj} (hg : M g = none) : MJ m (M.upd g o) g1 f0 f1 go gt cn bx st spare c := by
  have k := le_upd (o := o) hg
  exact ⟨h.mi.push hg, k _ _ h.b0, k _ _ h.b2, h.ne01, h.e0, h.e1⟩
theorem MJ.n0o (h : MJ m M g1 f0 f1 go gt cn bx st spare c) : f0 ≠ go := by
  rintro rfl; have := h.mi.ro; rw [h.b0] at this; simp at this
theorem MJ.n1o (h : MJ m M g1 f0 f1 go gt cn bx st spare c) : f1 ≠ go := by
  rintro rfl; have := h.mi.ro; rw [h.b2] at this; simp at this
theorem MJ.meet (h : MJ m M g1 f0 f1 go gt cn bx st spare c) {gt' c' : Nat} {spare' : List Value} {r : St} (hs : r.2.length * 1 + spare'.length = c' * 1) (hne : gt' ≠ go) (h0 : gt' ≠ f0) (h1 : gt' ≠ f1) (hg : gt' = gt ∨ M gt' = none) :
    MJ m (((M.upd go (row3 r.1 [])).upd gt' (row3 r.2 spare')).upd f1 (box44 gt' r.2.length c')) g1 f0 f1 go gt' cn bx r spare' c' := by
  have k := h.mi.meet hs hne hg
  have n1 : g1 ≠ f1 := by rintro rfl; have := h.b2; rw [h.mi.b1] at this; simp at this
  refine ⟨⟨le_upd_fresh k.le h.e1, ?_, ?_, ?_, hs, hne, k.fo, k.ft⟩, ?_, upd_same _ _ _, h.ne01, h.e0, h.e1⟩
  · rw [upd_ne n1]; exact k.b1
  · rw [upd_ne (Ne.symm h.n1o)]; exact k.ro
  · rw [upd_ne h1]; exact k.rt
  · rw [upd_ne h.ne01, upd_ne (Ne.symm h0), upd_ne h.n0o]; exact h.b0
end

theorem loop25 (t : Tab) (h64 : look t 64 = s64) (h62 : look t 62 = s62) (h53 : look t 53 = s53) {m : Mem} {Q : Value → Mem → Prop} {g1 f0 f1 go : Nat} {p s : Int} {ua : Option Addr} {un uc : Nat} {ca : Option Addr} {cn cc : Nat} {lc : List (Int × Int)}
    (hlc : lc.length = cn) (hcd : Rd m ca lc) (hN : cn ≤ 2 ^ 39) :
    ∀ (f i : Nat) (st : St) (gt c : Nat) (spare : List Value) (M : Mem), i + f = cn + 1 → InvD cn st → i ≤ st.2.length → MJ m M g1 f0 f1 go gt cn #[.int .i64 p, .int .i64 s, .slice ua un uc, .slice ca cn cc] st spare c →
      Q (.slice (some ⟨go, 0, none⟩) cn cn) (m.upd go (row3 (runD lc f i st) [])) → L25_11 (look t) f Q g1 f0 f1 f0 f1 (i : Int) M := by
  intro f
  induction f with
  | zero => intro i st gt c spare M hf hI hi hM hq; have := hI.le; omega
  | succ f ih =>
    intro i st gt c spare M hf hI hi hM hq
    have hle := hI.le
    rw [l25_11]
    refine ⟨M, Mem.le_refl _, _, _, _, cell_of hM.b2 0, ?_⟩
    by_cases hil : i < st.2.length
    case neg =>
      rw [if_neg (by simp; omega)]
      refine ⟨_, _, _, cell_of hM.b0 0, ret_intro (le_of_upd hM.mi.le hM.mi.ro) ?_⟩
      simp only [runD] at hq
      rw [if_neg hil] at hq
      exact hq
    rw [if_pos (by simp; omega)]
    simp only [runD] at hq
    rw [if_pos hil] at hq
    have hIs := (hlc ▸ hI : InvD lc.length st).step hil
    have hlen := @step_len lc st i
    refine ⟨_, _, _, cell_of hM.b2 0, ?_⟩
    refine idx' (Rd.of_block hM.mi.rt rfl) rfl (by omega) (by omega) fun ad had hd => ?_
    refine ⟨_, hd 0 _ rfl, ?_⟩
    simp only [Int.toNat_natCast]
    obtain ⟨hp0, hp1, hp2⟩ := hI.todo st.2[i] (List.getElem_mem hil)
    have eP : st.2.getD i 0 = st.2[i] := by simp [List.getD_eq_getElem?_getD, hil]
    generalize st.2[i] = pl at *
    refine ⟨_, _, _, cell_of hM.mi.b1 3, ?_⟩
    refine idx' (hcd.le hM.mi.le) hlc hp0 hp1 fun ad' had' hd' => ?_
    refine ⟨_, hd' 0 _ rfl, _, hd' 1 _ rfl, ?_⟩
    have hpl : pl.toNat < lc.length := by omega
    have eX : lc.getD pl.toNat (0, 0) = lc[pl.toNat] := by simp [List.getD_eq_getElem?_getD, hpl]
    generalize lc[pl.toNat] = x at *
    refine newA_intro fun g31 m32 hg31 e32 hb32 hle32 => ?_
    refine sto (c := #[.int .i64 0, .int .i64 0]) (t := 73) hb32 rfl (by simp) fun m33 e33 h33 hne33 => ?_
    have h33 : m33 g31 = some (.cells #[.int .i64 x.1, .int .i64 x.2] 73 (0, 0)) := h33
    have hM2 : MJ m m33 g1 f0 f1 go gt cn #[.int .i64 p, .int .i64 s, .slice ua un uc, .slice ca cn cc] st spare c := by
      rw [e33, e32, upd_upd]
      exact hM.push hg31
    have n31o : g31 ≠ go := ne_of_some hg31 hM.mi.ro
    have n310 : g31 ≠ f0 := ne_of_some hg31 hM.b0
    have n311 : g31 ≠ f1 := ne_of_some hg31 hM.b2
    have hpl2 : pl.toNat < st.1.length := by rw [hI.len]; omega
    have eN : st.1.getD pl.toNat 0 = st.1[pl.toNat] := by simp [List.getD_eq_getElem?_getD, hpl2]
    have hnr := hI.rng _ (List.getElem_mem hpl2)
    refine ⟨_, cell_of h33 0, _, cell_of h33 1, via h64 ⟨x, rfl, _, _, rfl, ?_⟩⟩
    have hstep : stepD lc st i = (let s1 := if x.1 = 18 ∨ x.1 = 24 then st else meetM cn st (IntKind.i64.wrap (pl + 1)) (IntKind.i64.wrap (st.1[pl.toNat] + mv x.1 x.2))
        if x.1 = 18 ∨ x.1 = 20 ∨ x.1 = 21 then meetM cn s1 x.2 st.1[pl.toNat] else if x.1 = 19 then meetM cn s1 x.2 (IntKind.i64.wrap (st.1[pl.toNat] - 1)) else s1) := by
      unfold stepD
      simp only [eP, eX, eN, hlc]
    have back : ∀ (s1 : St) (gt1 c1 : Nat) (spare1 : List Value) (M1 : Mem), InvD cn s1 → MJ m M1 g1 f0 f1 go gt1 cn #[.int .i64 p, .int .i64 s, .slice ua un uc, .slice ca cn cc] s1 spare1 c1 →
        s1 = stepD lc st i → L25_11 (look t) f Q g1 f0 f1 f0 f1 (IntKind.i64.wrap ((i : Int) + (1 : Int))) M1 := by
      intro s1 gt1 c1 spare1 M1 hI1 hM1 hs1
      rw [wsucc (n := cn) (by omega) (by omega)]
      subst hs1
      exact ih (i + 1) _ _ _ _ _ (by omega) hI1 (by omega) hM1 hq
    have tail : ∀ (s1 : St) (gt1 c1 : Nat) (spare1 : List Value) (M1 : Mem), InvD cn s1 → MJ m M1 g1 f0 f1 go gt1 cn #[.int .i64 p, .int .i64 s, .slice ua un uc, .slice ca cn cc] s1 spare1 c1 → M1 g31 = some (.cells #[.int .i64 x.1, .int .i64 x.2] 73 (0, 0)) →
        s1.1.getD pl.toNat 0 = st.1[pl.toNat] →
        stepD lc st i = (if x.1 = 18 ∨ x.1 = 20 ∨ x.1 = 21 then meetM cn s1 x.2 st.1[pl.toNat] else if x.1 = 19 then meetM cn s1 x.2 (IntKind.i64.wrap (st.1[pl.toNat] - 1)) else s1) →
        chain25 (look t) f Q g1 f0 f1 (i : Int) g31 pl (jm x.1 x.2) M1 := by
      intro s1 gt1 c1 spare1 M1 hI1 hM1 hb1 hkp hs1
      refine ⟨_, cell_of hb1 0, via h53 ⟨_, rfl, _, rfl, ?_⟩⟩
      by_cases cj : 18 ≤ x.1 ∧ x.1 ≤ 21
      case neg =>
        rw [if_neg (by simpa using cj)]
        rw [if_neg (by rintro (h | h | h) <;> omega), if_neg (by omega)] at hs1
        exact back _ _ _ _ _ hI1 hM1 hs1.symm
      rw [if_pos (by simpa using cj)]
      have hl1 : pl.toNat < s1.1.length := by rw [hI1.len]; omega
      have hval : IntKind.i64.wrap (st.1[pl.toNat] + jm x.1 x.2) ≤ 9223372036854775807 := (wrap_le _).1
      have hs2 : stepD lc st i = meetM cn s1 x.2 (IntKind.i64.wrap (st.1[pl.toNat] + jm x.1 x.2)) := by
        have h4 : x.1 = 18 ∨ x.1 = 19 ∨ x.1 = 20 ∨ x.1 = 21 := by omega
        rw [hs1]
        rcases h4 with h | h | h | h <;> simp [h, jm, mv, w64 (show -9223372036854775808 ≤ st.1[pl.toNat] by omega) hnr.2, Int.sub_eq_add_neg]
      have cellP : ∀ (r : St) (q : Mem), q go = some (row3 r.1 []) → r.1.length = cn → r.1.getD pl.toNat 0 = st.1[pl.toNat] → q.cell? ((⟨go, 0, none⟩ : Addr).add (pl.toNat * 1)) = some (.int .i64 st.1[pl.toNat]) := by
        intro r q hq hl hg
        have hlt : pl.toNat < r.1.length := by omega
        have := Rd.of_block (spare := []) hq rfl pl.toNat r.1[pl.toNat] (List.getElem?_eq_getElem hlt) 0 _ rfl
        rw [List.getD_eq_getElem?_getD, List.getElem?_eq_getElem hlt] at hg
        simp only [Option.getD_some] at hg
        rw [hg] at this
        exact this
      refine ⟨fun q => q.cell? ⟨g31, 1, none⟩ = some (.int .i64 x.2) ∧ q.cell? ⟨f0, 0, none⟩ = some (.slice (some ⟨go, 0, none⟩) cn cn) ∧ q.cell? ((⟨go, 0, none⟩ : Addr).add (pl.toNat * 1)) = some (.int .i64 st.1[pl.toNat]),
        ⟨cell_of hb1 1, cell_of hM1.b0 0, cellP s1 M1 hM1.mi.ro hI1.len hkp⟩, _, fun q h => h.1, _, _, _, fun q h => h.2.1, ?_⟩
      refine ⟨hp0, hp1, _, fun q h => h.2.2, via h62 ?_⟩
      refine ⟨f0, f1, go, cn, cn, gt1, _, c1, s1, spare1, _, _, rfl, hI1.len, rfl, by omega, by have := hI1.le; omega, hM1.mi.sz, hM1.mi.ne, hM1.ne01, hM1.b0, hM1.b2, hM1.mi.ro, hM1.mi.rt, fun gt' c' spare' hs hne' h0' h1' hg' => ⟨rfl, ?_, ?_⟩⟩
      · have hM3 := hM1.meet hs hne' h0' h1' hg'
        refine ⟨?_, cell_of hM3.b0 0, cellP _ _ hM3.mi.ro (hI1.meet hval).len ?_⟩
        · have n3 : g31 ≠ gt' := by
            rcases hg' with rfl | hg'
            · rintro rfl; have := hM1.mi.rt; rw [hb1] at this; simp at this
            · rintro rfl; rw [hb1] at hg'; cases hg'
          refine cell_of (c := #[.int .i64 x.1, .int .i64 x.2]) (t := 73) (fr := (0, 0)) ?_ 1
          rw [upd_ne n311, upd_ne n3, upd_ne n31o]
          exact hb1
        · rw [meet_keep (by rw [hkp]; omega) hl1]
          exact hkp
      · exact back _ _ _ _ _ (hI1.meet hval) (hM1.meet hs hne' h0' h1' hg') hs2.symm
    refine ⟨_, cell_of h33 0, ?_⟩
    by_cases c18 : x.1 = 18
    · rw [if_neg (by simpa using c18)]
      refine tail st gt c spare m33 hI hM2 h33 eN ?_
      rw [hstep]
      simp only [c18, true_or, if_true]
    rw [if_pos (by simpa using c18)]
    refine ⟨_, cell_of h33 0, ?_⟩
    by_cases c24 : x.1 = 24
    · rw [if_neg (by simpa using c24)]
      refine tail st gt c spare m33 hI hM2 h33 eN ?_
      rw [hstep]
      simp only [c24, or_true, if_true]
    rw [if_pos (by simpa using c24)]
    refine ⟨_, _, _, cell_of hM2.b0 0, ?_⟩
    refine idx' (Rd.of_block (spare := []) hM2.mi.ro rfl) hI.len hp0 hp1 fun ad'' had'' hd'' => ?_
    refine ⟨_, hd'' 0 _ rfl, via h62 ?_⟩
    refine ⟨f0, f1, go, cn, cn, gt, _, c, st, spare, _, _, rfl, hI.len, rfl, by omega, by omega, hM2.mi.sz, hM2.mi.ne, hM2.ne01, hM2.b0, hM2.b2, hM2.mi.ro, hM2.mi.rt, fun gt' c' spare' hs hne' h0' h1' hg' => ⟨rfl, ?_⟩⟩
    refine tail _ gt' c' spare' _ (hI.meet (wrap_le _).1) (hM2.meet hs hne' h0' h1' hg') ?_ ?_ ?_
    · have : g31 ≠ gt' := by
        rcases hg' with rfl | hg'
        · exact ne_of_some hg31 hM.mi.rt
        · rintro rfl; rw [h33] at hg'; cases hg'
      rw [upd_ne n311, upd_ne this, upd_ne n31o]
      exact h33
    · rw [meet_keep hp2 hpl2]
      exact eN
    · rw [hstep]
      simp only [c18, c24, or_self, if_false]

def s25 : Spec := fun args m Q => ∃ (p s : Int) (ua : Option Addr) (un uc : Nat) (ca : Option Addr) (cn cc : Nat) (lc : List (Int × Int)), args = [.agg #[.int .i64 p, .int .i64 s, .slice ua un uc, .slice ca cn cc]] ∧ lc.length = cn ∧ cn ≤ 2 ^ 39 ∧ Rd m ca lc ∧
  ∀ g, m g = none → Q (.slice (some ⟨g, 0, none⟩) cn cn) (m.upd g (row3 (depthsM lc) []))
theorem f25 (t : Tab) (h64 : look t 64 = s64) (h62 : look t 62 = s62) (h53 : look t 53 = s53) : ∀ args m Q, s25 args m Q → FA Try.prog (look t) kp25 Try.f25 args m Q := by
  rintro args m Q ⟨p, s, ua, un, uc, ca, cn, cc, lc, rfl, hlc, hN, hcd, h⟩
  rw [e25]
  refine newA_intro fun g1 m1 hg1 e1 hb1 hle1 => ?_
  refine ⟨_, _, _, cell_of hb1 3, by omega, by omega, by omega, by omega, ?_⟩
  refine newA_intro fun go m8 hgo e8 hb8 hle8 => ?_
  have hmo : m go = none := by rw [e1, upd_none] at hgo; exact hgo.2
  have h := h go hmo
  have n1o : g1 ≠ go := by rw [e1, upd_none] at hgo; exact Ne.symm hgo.1
  simp only [Int.toNat_natCast] at *
  have hz : zeroRow #[.int .i64 (0 : Int)] (cn * 1) = (flat Enc.e (List.replicate cn (0 : Int))).toArray := zeroRow_eq (0 : Int) cn
  rw [hz] at hb8 e8
  refine newA_intro fun f0 m10 hf0 e10 hb10 hle10 => ?_
  refine sto (c := #[.slice none 0 0]) (t := 44) hb10 rfl (by simp) fun m11 e11 h11 hne11 => ?_
  have h11 : m11 f0 = some (box44 go cn cn) := h11
  have hf8 : m8 f0 = none := hf0
  have n0o : f0 ≠ go := ne_of_some hf8 hb8
  have n01 : f0 ≠ g1 := ne_of_some hf8 (hle8 _ _ hb1)
  have hf1' : m1 f0 = none := by rw [e8, upd_none] at hf8; exact hf8.2
  have hmf0 : m f0 = none := by rw [e1, upd_none] at hf1'; exact hf1'.2
  refine ⟨_, _, _, cell_of h11 0, ?_⟩
  have e11' : m11 = m8.upd f0 (box44 go cn cn) := by rw [e11, e10, upd_upd]; rfl
  suffices key : ∀ d i, i + d = cn → ∀ m', m' = (m1.upd go (row3 ((List.range i).map (fun _ => (-1 : Int)) ++ (List.replicate cn 0).drop i) [])).upd f0 (box44 go cn cn) → L25_3 (look t) (d + 1) Q g1 f0 (cn : Int) (i : Int) m' from
    ⟨cn + 1, key cn 0 (by omega) _ (by rw [e11', e8]; simp [row3])⟩
  intro d
  induction d with
  | zero =>
    intro i hi m' hm'
    rw [l25_3]
    refine ⟨m', Mem.le_refl _, ?_⟩
    rw [if_neg (by simp; omega)]
    have ei : i = cn := by omega
    subst ei
    have hrow : (List.range i).map (fun _ => (-1 : Int)) ++ (List.replicate i 0).drop i = List.replicate i (-1) := by
      rw [List.drop_eq_nil_of_le (by simp), List.append_nil]
      apply List.ext_getElem
      · simp
      · intro k h1 h2; simp
    rw [hrow] at hm'
    have b0' : m' f0 = some (box44 go i i) := by rw [hm']; exact upd_same _ _ _
    have ro' : m' go = some (row3 (List.replicate i (-1)) []) := by rw [hm', upd_ne (Ne.symm n0o)]; exact upd_same _ _ _
    have b1' : m' g1 = some (.cells #[.int .i64 p, .int .i64 s, .slice ua un uc, .slice ca i cc] 38 (0, 0)) := by rw [hm', upd_ne (Ne.symm n01), upd_ne n1o]; exact hb1
    have le' : Mem.le m m' := by rw [hm']; exact le_upd_fresh (le_upd_fresh hle1 hmo) hmf0
    refine newA_intro fun gt m25 hgt e25 hb25 hle25 => ?_
    have hmt : m gt = none := by
      cases e : m gt with
      | none => rfl
      | some o => have := le' _ _ e; rw [hgt] at this; cases this
    refine newA_intro fun f1 m27 hf1 e27 hb27 hle27 => ?_
    refine sto (c := #[.slice none 0 0]) (t := 44) hb27 rfl (by simp) fun m28 e28 h28 hne28 => ?_
    have h28 : m28 f1 = some (box44 gt 0 0) := h28
    have hf1m : m' f1 = none := by rw [e25, upd_none] at hf1; exact hf1.2
    have hmf1 : m f1 = none := by
      cases e : m f1 with
      | none => rfl
      | some o => have := le' _ _ e; rw [hf1m] at this; cases this
    have n1t : f1 ≠ gt := by rw [e25, upd_none] at hf1; exact hf1.1
    have n1_0 : f1 ≠ f0 := ne_of_some hf1m b0'
    have n1_o : f1 ≠ go := ne_of_some hf1m ro'
    have n1_1 : f1 ≠ g1 := ne_of_some hf1m b1'
    have nto : gt ≠ go := ne_of_some hgt ro'
    have nt0 : gt ≠ f0 := ne_of_some hgt b0'
    have nt1 : gt ≠ g1 := ne_of_some hgt b1'
    have hx : ∀ b, b ≠ f1 → b ≠ gt → m28 b = m' b := by
      intro b hb1 hb2
      rw [hne28 b hb1, e27, upd_ne hb1, e25, upd_ne hb2]
    have hM : MJ m m28 g1 f0 f1 go gt i #[.int .i64 p, .int .i64 s, .slice ua un uc, .slice ca i cc] (List.replicate i (-1), []) [] 0 := by
      refine ⟨⟨?_, (hx _ (Ne.symm n1_1) (Ne.symm nt1)).trans b1', (hx _ (Ne.symm n1_o) (Ne.symm nto)).trans ro', ?_, rfl, nto, hmo, hmt⟩, (hx _ (Ne.symm n1_0) (Ne.symm nt0)).trans b0', h28, Ne.symm n1_0, hmf0, hmf1⟩
      · rw [e28, e27, upd_upd, e25]
        exact le_upd_fresh (le_upd_fresh le' hmt) hmf1
      · rw [hne28 gt (Ne.symm n1t), e27, upd_ne (Ne.symm n1t), hb25]
        rfl
    refine via h62 ?_
    refine ⟨f0, f1, go, i, i, gt, 0, 0, (List.replicate i (-1), []), [], _, _, rfl, by simp, rfl, by omega, by omega, rfl, nto, hM.ne01, hM.b0, hM.b2, hM.mi.ro, hM.mi.rt, fun gt' c' spare' hs hne' h0' h1' hg' => ⟨rfl, ?_⟩⟩
    have hinv := (InvD.base i).meet (a := 0) (v := 0) (by omega)
    have hM3 := hM.meet hs hne' h0' h1' hg'
    refine ⟨i + 1, loop25 t h64 h62 h53 hlc hcd hN (i + 1) 0 _ gt' c' spare' _ (by omega) hinv (by omega) hM3 ?_⟩
    have hd : depthsM lc = runD lc (i + 1) 0 (meetM i (List.replicate i (-1), []) 0 0) := by
      unfold depthsM
      by_cases h0 : i = 0
      · rw [if_pos (by omega)]
        subst h0
        have : lc = [] := List.eq_nil_of_length_eq_zero hlc
        subst this
        simp [runD, meetM]
      · rw [if_neg (by omega), hlc, meet_base (by omega)]
    rw [hd] at h
    exact h
  | succ d ih =>
    intro i hi m' hm'
    rw [l25_3]
    refine ⟨m', Mem.le_refl _, ?_⟩
    rw [if_pos (by simp; omega)]
    have b0' : m' f0 = some (box44 go cn cn) := by rw [hm']; exact upd_same _ _ _
    refine ⟨_, _, _, cell_of b0' 0, by omega, by omega, ?_⟩
    have hro : m' go = some (row3 ((List.range i).map (fun _ => (-1 : Int)) ++ (List.replicate cn 0).drop i) []) := by rw [hm', upd_ne (Ne.symm n0o)]; exact upd_same _ _ _
    refine sto1 (α := Int) (spare := []) (i := i) (j := 0) (x := -1) hro (by rw [add_eq rfl, Int.toNat_natCast]; exact congrArg (fun x => (⟨go, x, none⟩ : Addr)) (by show 0 + i * 1 = i * 1 + 0; omega)) rfl (by simp; omega) (by decide) rfl ?_
    rw [wsucc (n := cn) (by omega) (by omega)]
    refine ih (i + 1) (by omega) _ ?_
    rw [upd_row (fun _ => (-1 : Int)) (List.replicate cn 0) i (by simp; omega), hm']
    funext b
    unfold Mem.upd
    by_cases hb1 : b = go
    · subst hb1; simp [Ne.symm n0o]
    · simp [hb1]
end Go.Proofs.Ytcbjdodehjpddaa.Abs
