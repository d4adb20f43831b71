/- Modules: the program's function that lays what is used of a module; its last two parts. -/
import Derived.Test.YtcbjdodehjpddaaOa
namespace Go.Proofs.Ytcbjdodehjpddaa.Abs
open Go.RowKit
set_option linter.unusedVariables false
set_option linter.unusedSimpArgs false
set_option linter.unusedSectionVars false
set_option maxRecDepth 20000
set_option maxHeartbeats 400000

def s78 : Spec := fun args m Q => ∃ (h : dMo.H) (x : Mo), args = [vM h] ∧ dMo.At m h x ∧ okM x ∧ (okPsX x.1 x.2.length ∧ 0 < x.1.length) ∧
  ∀ (h' : dMo.H) (D : List Nat) (m' : Mem), Mem.le m m' → (∀ b ∈ D, m b = none) → D.Nodup → dMo.Own m' h' (unM x) D → Q (vM h') m'
def s73 : Spec := s78
theorem rowAt {α : Type} [Enc α] {q : Mem} {g : Nat} {t : TypeId} {fr : Nat × Nat} {l : List α} (h : q g = some (.cells (flat Enc.e l).toArray t fr)) {i : Nat} {x : α} (hi : l[i]? = some x) {j : Nat} {v : Value} (hv : (Enc.e x)[j]? = some v) : q.cell? (((⟨g, 0, none⟩ : Addr).add (i * Enc.s α)).add j) = some v := by
  have := Rd.of_block (l := l) (spare := []) h (by simp) i x hi j v hv
  rw [add_add]
  exact this
theorem rowAt1 {α : Type} [Enc α] {q : Mem} {g : Nat} {t : TypeId} {fr : Nat × Nat} {l : List α} (h : q g = some (.cells (flat Enc.e l).toArray t fr)) {i : Nat} {x : α} (hi : l[i]? = some x) {v : Value} (hv : (Enc.e x)[0]? = some v) : q.cell? ((⟨g, 0, none⟩ : Addr).add (i * Enc.s α)) = some v := by
  have := rowAt h hi hv
  rwa [add_add, Nat.add_zero] at this
theorem okX_get {R : US} {np nt : Nat} {x : Ins} (I : UI np nt R) (hc : clX R x) (ho : okX np nt x) : (x.1 = 12 → x.2.toNat < R.1.length ∧ R.1[x.2.toNat]? = some true) ∧ (x.1 = 4 → x.2.toNat < R.2.1.length ∧ R.2.1[x.2.toNat]? = some true) := by
  refine ⟨fun e => ⟨?_, hc.1 e⟩, fun e => ⟨?_, hc.2 e⟩⟩
  · exact (List.getElem?_eq_some_iff.1 (hc.1 e)).1
  · exact (List.getElem?_eq_some_iff.1 (hc.2 e)).1

section
variable (t : Tab) {m0 mb : Mem} {Q : Value → Mem → Prop} {g3 go ga gb np nt : Nat} {R : US} {P : List Pr} {T : List ByteArray}
  (h0 : Mem.le m0 mb) (h3 : mb g3 = some (.cells #[.slice none 0 0, .slice none 0 0] 55 (0, 0))) (hg3 : m0 g3 = none)
  (I : UI np nt R) (hcl : ∀ p ∈ P, ∀ x ∈ p.2.2.2, clX R x ∧ okX np nt x) (hP : P.length ≤ 2 ^ 20) (hC : ∀ p ∈ P, p.2.2.2.length ≤ 2 ^ 20)
  (hq : ∀ (h' : dMo.H) (D : List Nat) (m' : Mem), Mem.le m0 m' → (∀ b ∈ D, m0 b = none) → D.Nodup → dMo.Own m' h' (P.map (unP R), T) D → Q (vM h') m')
include h0 h3 hg3 hq

theorem un_end {M : Mem} {la lb : List Int} {s st : Sl} {D Dt : List Nat} (O : Ou mb M go ga gb la lb (P.map (unP R)) T s st D Dt) :
    stoA M ⟨g3, 0, none⟩ [vs s, vs st] fun m83 => (∃ (ra84 : Option Addr) (rn85 rc86 : Nat), (Mem.cell? m83 ⟨g3, 0, none⟩ = some (.slice ra84 rn85 rc86) ∧ (∃ (ra88 : Option Addr) (rn89 rc90 : Nat), (Mem.cell? m83 ⟨g3, 1, none⟩ = some (.slice ra88 rn89 rc90) ∧ (ret Q (.agg #[(.slice ra84 rn85 rc86), (.slice ra88 rn89 rc90)]) m83))))) := by
  have N := O.ne
  refine sto (c := #[.slice none 0 0, .slice none 0 0]) (t := 55) (O.le _ _ h3) rfl (by simp) fun m83 e83 h83 hne => ?_
  have h83 : m83 g3 = some (.cells #[vs s, vs st] 55 (0, 0)) := h83
  have n3 : g3 ∉ D ++ Dt := fun h => by
    have := O.fr g3 (by simp only [List.mem_cons]; exact .inr (.inr (.inr h)))
    rw [h3] at this
    cases this
  refine ⟨_, _, _, cell_of h83 0, _, _, _, cell_of h83 1, ret_intro (Mem.le_refl _) (hq (s, st) (D ++ Dt) m83 (le_other (Mem.le_trans h0 O.le) hg3 hne) (fun b hb => le_none h0 (O.fr b (by simp only [List.mem_cons]; exact .inr (.inr (.inr hb))))) ?_ ⟨D, Dt, rfl, ?_, ?_⟩)⟩
  · exact List.nodup_append.2 ⟨N.dd, N.dt, fun b hb b' hb' e => N.DT b hb (e ▸ hb')⟩
  · exact dPrs.own_ext O.o fun b hb => hne b (by rintro rfl; exact n3 (by simp [hb]))
  · exact dTx.own_ext O.ot fun b hb => hne b (by rintro rfl; exact n3 (by simp [hb]))

include I hcl hP hC
theorem loop78_33 {s : Sl} (hsn : s.n = P.length) : ∀ d i, i + d = P.length → ∀ (M : Mem) (D Dt : List Nat) (st : Sl), Ou mb M go ga gb (numV R.1) (numV R.2.1) (psA R P i) T s st D Dt →
    L78_33 (look t) (d + 1) Q g3 (some ⟨ga, 0, none⟩) np np (some ⟨gb, 0, none⟩) nt nt go s.a s.n s.c (s.n : Int) (i : Int) M := by
  intro d
  induction d with
  | zero =>
    intro i hi M D Dt st O
    rw [l78_33]
    refine ⟨M, Mem.le_refl _, ?_⟩
    rw [if_neg (by simp; omega)]
    rw [show i = P.length by omega, psA_end] at O
    exact ⟨_, _, _, cell_of O.bo 0, _, _, _, cell_of O.bo 1, un_end h0 h3 hg3 hq O⟩
  | succ d ih =>
    intro i hi M D Dt st O
    rw [l78_33]
    refine ⟨M, Mem.le_refl _, ?_⟩
    rw [if_pos (by simp; omega)]
    have hip : i < P.length := by omega
    have hlA : i < (psA R P i).length := by rw [psA_len _ _ _ (by omega)]; exact hip
    obtain ⟨hs, Dc, hl, hrd, hc, hcD, hU⟩ := O.code hlA
    rw [psA_get R P i hip hlA] at hc hU
    have hil : i < hs.length := by rw [hl]; exact hlA
    refine idx' hrd (by rw [hl, psA_len _ _ _ (by omega)]; exact hsn.symm) (by omega) (by omega) fun ad had hd => ?_
    simp only [Int.toNat_natCast] at hd ⊢
    have hpm := List.getElem_mem hip
    have hcl' := hcl _ hpm
    have hC' := hC _ hpm
    have hst := psA_step R P i hip
    generalize hs[i] = hh at *
    generalize P[i] = x at *
    obtain ⟨p, s0, ⟨ua, un, uc⟩, ⟨ca, cn, cc⟩⟩ := hh
    obtain ⟨p', s0', lu, lc⟩ := x
    have hcl' : ∀ x ∈ lc, clX R x ∧ okX np nt x := hcl'
    have hC' : lc.length ≤ 2 ^ 20 := hC'
    have hc : OwnL M ⟨ca, cn, cc⟩ lc Dc := hc
    have hcn : cn = lc.length := hc.1
    refine ⟨_, hd 0 _ rfl, _, hd 1 _ rfl, _, _, _, hd 2 _ rfl, _, _, _, hd 3 _ rfl, newA_intro fun g183 m184 hg183 e184 hb184 hle184 => ?_⟩
    refine sto (c := #[.int .i64 0, .int .i64 0, .slice none 0 0, .slice none 0 0]) (t := 38) hb184 rfl (by simp) fun m185 e185 h185 hne185 => ?_
    have h185 : m185 g183 = some (.cells #[.int .i64 p, .int .i64 s0, .slice ua un uc, .slice ca cn cc] 38 (0, 0)) := h185
    have le185 : Mem.le M m185 := by rw [e185, e184, upd_upd]; exact le_upd hg183
    clear e185 e184 hne185 hb184 hle184
    refine ⟨_, _, _, cell_of h185 3, ?_⟩
    have hc185 : OwnL m185 ⟨ca, cn, cc⟩ lc Dc := dIns.own_le le185 hc
    have N := O.ne
    have hDcM : ∀ b ∈ Dc, ∃ o, M b = some o := hc.live
    have n183 : g183 ∉ Dc := fun h => by obtain ⟨o, ho⟩ := hDcM _ h; rw [hg183] at ho; cases ho
    suffices key : ∀ e j, j + e = cn → ∀ M1 : Mem, OwnL M1 ⟨ca, cn, cc⟩ (part R lc j) Dc → (∀ b, b ∉ Dc → M1 b = m185 b) → ∀ Mx, Mem.le M1 Mx → L78_36 (look t) (d + 1) (e + 1) Q g3 (some ⟨ga, 0, none⟩) np np (some ⟨gb, 0, none⟩) nt nt go g183 s.a s.n s.c (s.n : Int) (i : Int) ca cn cc (cn : Int) (j : Int) Mx from
      ⟨cn + 1, key cn 0 (by omega) m185 (by rw [part_zero]; exact hc185) (fun _ _ => rfl) m185 (Mem.le_refl _)⟩
    intro e
    induction e with
    | zero =>
      intro j hj M1 hO1 hoff Mx hx
      rw [l78_36]
      rw [show j = lc.length by omega, part_end] at hO1
      have hwl : Mem.le (weld M M1 Dc) M1 := weld_le fun b hb o ho => by rw [hoff b hb]; exact le185 _ _ ho
      refine ⟨weld M M1 Dc, Mem.le_trans hwl hx, ?_⟩
      rw [if_neg (by simp; omega), wsucc (n := P.length) hip (by omega)]
      have hO2 := (hU (weld M M1 Dc) (lc.map (renU R)) (hO1.ext fun b hb => weld_in hb) (fun b hb => weld_off hb)).1
      rw [show ((p', s0', lu, lc) : Pr).1 = p' from rfl] at hO2
      have : (psA R P i).set i (p', s0', lu, lc.map (renU R)) = psA R P (i + 1) := hst
      exact ih (i + 1) (by omega) _ D Dt st (by rw [← this]; exact hO2)
    | succ e ihe =>
      intro j hj M1 hO1 hoff Mx hx
      rw [l78_36]
      refine ⟨M1, hx, ?_⟩
      rw [if_pos (by simp; omega)]
      have hjl : j < lc.length := by omega
      have hjp : j < (part R lc j).length := by rw [part_len _ _ _ (by omega)]; exact hjl
      have epj := part_get R lc j hjl hjp
      refine idx' hO1.rd (by rw [part_len _ _ _ (by omega)]; exact hcn.symm) (by omega) (by omega) fun ad' had' hd' => ?_
      simp only [Int.toNat_natCast] at hd' ⊢
      rw [epj] at hd'
      obtain ⟨hcx, hox⟩ := hcl' lc[j] (List.getElem_mem hjl)
      obtain ⟨hx12, hx4⟩ := okX_get I hcx hox
      obtain ⟨o12, o4⟩ := hox
      have hps := part_step R lc j hjl
      have hpm := part_same R lc j hjl
      have hsI := fun v => hO1.setI hjp v
      rw [epj] at hsI
      generalize lc[j] = y at *
      obtain ⟨op, a⟩ := y
      refine ⟨_, hd' 0 _ rfl, _, hd' 1 _ rfl, newA_intro fun g214 m215 hg214 e215 hb215 hle215 => ?_⟩
      refine sto (c := #[.int .i64 0, .int .i64 0]) (t := 73) hb215 rfl (by simp) fun m216 e216 h216 hne216 => ?_
      have h216 : m216 g214 = some (.cells #[.int .i64 op, .int .i64 a] 73 (0, 0)) := h216
      have le216 : Mem.le M1 m216 := by rw [e216, e215, upd_upd]; exact le_upd hg214
      have off216 : ∀ b, b ≠ g214 → m216 b = M1 b := fun b hb => by rw [e216, e215, upd_upd, upd_ne hb]
      clear e216 e215 hne216 hb215 hle215
      have n214 : g214 ∉ Dc := fun h => by
        obtain ⟨o, ho⟩ := hO1.live _ h
        rw [hg214] at ho
        cases ho
      refine ⟨_, cell_of h216 0, ?_⟩
      have wj := wsucc (i := j) (n := cn) (by omega) (by omega)
      have ba1 : m216 ga = some (.cells (flat Enc.e (numV R.1)).toArray 3 (0, 0)) := le216 _ _ (by rw [hoff _ fun h => N.aD (hcD _ h)]; exact le185 _ _ O.ba)
      have bb1 : m216 gb = some (.cells (flat Enc.e (numV R.2.1)).toArray 3 (0, 0)) := le216 _ _ (by rw [hoff _ fun h => N.bD (hcD _ h)]; exact le185 _ _ O.bb)
      have b183 : m216 g183 = some (.cells #[.int .i64 p, .int .i64 s0, .slice ua un uc, .slice ca cn cc] 38 (0, 0)) := le216 _ _ (by rw [hoff _ n183]; exact h185)
      have H := hide_le m216 Dc
      have Ha : (hide m216 Dc) ga = some (.cells (flat Enc.e (numV R.1)).toArray 3 (0, 0)) := by rw [hide_off fun h => N.aD (hcD _ h)]; exact ba1
      have Hb : (hide m216 Dc) gb = some (.cells (flat Enc.e (numV R.2.1)).toArray 3 (0, 0)) := by rw [hide_off fun h => N.bD (hcD _ h)]; exact bb1
      have H183 : (hide m216 Dc) g183 = some (.cells #[.int .i64 p, .int .i64 s0, .slice ua un uc, .slice ca cn cc] 38 (0, 0)) := by rw [hide_off n183]; exact b183
      have H214 : (hide m216 Dc) g214 = some (.cells #[.int .i64 op, .int .i64 a] 73 (0, 0)) := by rw [hide_off n214]; exact h216
      have hO216 : OwnL m216 ⟨ca, cn, cc⟩ (part R lc j) Dc := dIns.own_le le216 hO1
      -- behind the store of a number
      have go : ∀ v : Int, (op, v) = renU R (op, a) → optA ca fun d229 => (0 ≤ (j : Int) ∧ (j : Int) < (cn : Int) ∧ (stoA m216 ((d229.add (Int.toNat (j : Int) * 2)).add 1) [.int .i64 v] fun m230 => (Mem.le (hide m216 Dc) m230 ∧ L78_36 (look t) (d + 1) (e + 1) Q g3 (some ⟨ga, 0, none⟩) np np (some ⟨gb, 0, none⟩) nt nt go g183 s.a s.n s.c (s.n : Int) (i : Int) ca cn cc (cn : Int) (IntKind.i64.wrap ((j : Int) + (1 : Int))) m230))) := by
        intro v hv
        have hjp' : j < (part R lc j).length := hjp
        obtain ⟨ad2, ha2, hk⟩ := hO216.setI hjp v
        have ha2 : ca = some ad2 := ha2
        rw [ha2]
        refine ⟨by omega, by omega, ?_⟩
        simp only [Int.toNat_natCast]
        refine hk _ fun M2 hM2 hoff2 => ⟨?_, ?_⟩
        · intro b o ho
          by_cases hb : b ∈ Dc
          · rw [hide_none hb] at ho; cases ho
          · rw [hide_off hb] at ho; rw [hoff2 b hb]; exact ho
        · rw [wj]
          rw [epj, hps _ hv] at hM2
          have hwl : Mem.le (weld m185 M2 Dc) M2 := weld_le fun b hb o ho => by rw [hoff2 b hb]; exact le216 _ _ (by rw [hoff b hb]; exact ho)
          have e1 : j + 1 + e = cn := by omega
          have e2 : OwnL (weld m185 M2 Dc) ⟨ca, cn, cc⟩ (part R lc (j + 1)) Dc := hM2.ext fun b hb => weld_in hb
          have h9 := ihe (j + 1) e1 (weld m185 M2 Dc) e2 (fun b hb => weld_off hb) M2 hwl
          rw [ha2] at h9
          exact h9
      by_cases c4 : op = 4
      · subst c4
        rw [if_pos (by decide)]
        obtain ⟨ha0, hat⟩ := o4 rfl
        have ha0 : 0 ≤ a := ha0
        have hat : a < (nt : Int) := hat
        obtain ⟨hxl, hxg⟩ := hx4 rfl
        have hxl : a.toNat < R.2.1.length := hxl
        have hxg : R.2.1[a.toNat]? = some true := hxg
        have hnv := numV_get hxl
        rw [show R.2.1[a.toNat] = true from get_of hxl hxg, if_pos rfl] at hnv
        refine ⟨Mem.le (hide m216 Dc), H, _, _, _, held (cell_of H183 3), _, held (cell_of H214 1), ?_⟩
        refine ⟨ha0, hat, _, held (rowAt1 (α := Int) Hb hnv rfl), ?_⟩
        exact go _ rfl
      · rw [if_neg (by simpa using c4)]
        by_cases c12 : op = 12
        · subst c12
          rw [if_pos (by decide)]
          obtain ⟨ha0, hat⟩ := o12 rfl
          have ha0 : 0 ≤ a := ha0
          have hat : a < (np : Int) := hat
          obtain ⟨hxl, hxg⟩ := hx12 rfl
          have hxl : a.toNat < R.1.length := hxl
          have hxg : R.1[a.toNat]? = some true := hxg
          have hnv := numV_get hxl
          rw [show R.1[a.toNat] = true from get_of hxl hxg, if_pos rfl] at hnv
          refine ⟨Mem.le (hide m216 Dc), H, _, _, _, held (cell_of H183 3), _, held (cell_of H214 1), ?_⟩
          refine ⟨ha0, hat, _, held (rowAt1 (α := Int) Ha hnv rfl), ?_⟩
          exact go _ rfl
        · rw [if_neg (by simpa using c12), wj]
          have hwl : Mem.le M1 m216 := le216
          refine ihe (j + 1) (by omega) M1 ?_ hoff m216 hwl
          rw [hpm (by unfold renU; rw [if_neg c12, if_neg c4])]
          exact hO1
end
end Go.Proofs.Ytcbjdodehjpddaa.Abs
