/- Modules: the reference's function that lays what is used of a module. -/
import Derived.Test.YtcbjdodehjpddaaOf
namespace Go.Proofs.Ytcbjdodehjpddaa.Abs
open Go.RowKit
set_option linter.unusedVariables false
set_option linter.unusedSimpArgs false
set_option linter.unusedSectionVars false
set_option maxRecDepth 20000
set_option maxHeartbeats 400000

def rkV (bl : List Bool) (i : Nat) : List Int := (List.range i).map (fun k => (rank bl k : Int)) ++ (List.replicate bl.length 0).drop i
theorem rkV_len (bl : List Bool) (i : Nat) (h : i ≤ bl.length) : (rkV bl i).length = bl.length := by simp [rkV]; omega
theorem rkV_zero (bl : List Bool) : rkV bl 0 = List.replicate bl.length 0 := by simp [rkV]
theorem rkV_step (bl : List Bool) (i : Nat) (h : i < bl.length) : (rkV bl i).set i (rank bl i : Int) = rkV bl (i + 1) := by
  unfold rkV
  exact upd_row (fun k => (rank bl k : Int)) (List.replicate bl.length 0) i (by simpa using h)
theorem rkV_get {bl : List Bool} {i : Nat} (h : i < bl.length) : (rkV bl bl.length)[i]? = some (rank bl i : Int) := by
  unfold rkV
  rw [List.getElem?_append_left (by simpa using h), List.getElem?_map, List.getElem?_range h]
  rfl

section
variable (t : Tab) {m0 mb : Mem} {Q : Value → Mem → Prop} {g3 go ga gb np nt : Nat} {R : US} {P : List Pr} {T : List ByteArray}
  (h0 : Mem.le m0 mb) (h3 : mb g3 = some (.cells #[.slice none 0 0, .slice none 0 0] 55 (0, 0))) (hg3 : m0 g3 = none)
  (I : UI np nt R) (hcl : ∀ p ∈ P, ∀ x ∈ p.2.2.2, clX R x ∧ okX np nt x) (hP : P.length ≤ 2 ^ 20) (hC : ∀ p ∈ P, p.2.2.2.length ≤ 2 ^ 20)
  (hq : ∀ (h' : dMo.H) (D : List Nat) (m' : Mem), Mem.le m0 m' → (∀ b ∈ D, m0 b = none) → D.Nodup → dMo.Own m' h' (P.map (unP R), T) D → Q (vM h') m')
include h0 h3 hg3 hq I hcl hP hC
theorem loop73_32 {s : Sl} (hsn : s.n = P.length) : ∀ d i, i + d = P.length → ∀ (M : Mem) (D Dt : List Nat) (st : Sl), Ou mb M go ga gb (rkV R.1 R.1.length) (rkV R.2.1 R.2.1.length) (psA R P i) T s st D Dt →
    L73_32 (look t) (d + 1) Q g3 go (some ⟨ga, 0, none⟩) np np (some ⟨gb, 0, none⟩) nt nt (i : Int) M := by
  intro d
  induction d with
  | zero =>
    intro i hi M D Dt st O
    rw [l73_32]
    refine ⟨M, Mem.le_refl _, _, _, _, cell_of O.bo 0, ?_⟩
    rw [if_neg (by simp; omega)]
    rw [show i = P.length by omega, psA_end] at O
    exact ⟨_, _, _, cell_of O.bo 0, _, _, _, cell_of O.bo 1, un_end h0 h3 hg3 hq O⟩
  | succ d ih =>
    intro i hi M D Dt st O
    rw [l73_32]
    refine ⟨M, Mem.le_refl _, _, _, _, cell_of O.bo 0, ?_⟩
    rw [if_pos (by simp; omega)]
    have hip : i < P.length := by omega
    have hlA : i < (psA R P i).length := by rw [psA_len _ _ _ (by omega)]; exact hip
    obtain ⟨hs, Dc, hl, hrd, hc, hcD, hU⟩ := O.code hlA
    rw [psA_get R P i hip hlA] at hc hU
    have hil : i < hs.length := by rw [hl]; exact hlA
    have hlen : hs.length = s.n := by rw [hl, psA_len _ _ _ (by omega)]; exact hsn.symm
    have hwi := wsucc (i := i) (n := P.length) hip (by omega)
    have hpm := List.getElem_mem hip
    have hcl' := hcl _ hpm
    have hC' := hC _ hpm
    have hst := psA_step R P i hip
    have hd0 : ∀ (M1 : Mem), Rd M1 s.a hs → ∀ K : Addr → Prop, (∀ ad, s.a = some ad → (∀ (j : Nat) (v : Value), (Enc.e hs[i])[j]? = some v → M1.cell? ((ad.add (i * 4)).add j) = some v) → K ad) → optA s.a fun ad => 0 ≤ (i : Int) ∧ (i : Int) < (s.n : Int) ∧ K ad := by
      intro M1 h1 K hK
      exact idx' h1 hlen (by omega) (by omega) fun ad had hd => hK ad had hd
    generalize hs[i] = hh at *
    generalize P[i] = x at *
    obtain ⟨p, s0, ⟨ua, un, uc⟩, ⟨ca, cn, cc⟩⟩ := hh
    obtain ⟨p', s0', lu, lc⟩ := x
    have hcl' : ∀ x ∈ lc, clX R x ∧ okX np nt x := hcl'
    have hC' : lc.length ≤ 2 ^ 20 := hC'
    have hc : OwnL M ⟨ca, cn, cc⟩ lc Dc := hc
    have hcn : cn = lc.length := hc.1
    have N := O.ne
    suffices key : ∀ e j, j + e = cn → ∀ M1 : Mem, OwnL M1 ⟨ca, cn, cc⟩ (part R lc j) Dc → (∀ b, b ∉ Dc → M1 b = M b) → ∀ Mx, Mem.le M1 Mx → L73_35 (look t) (d + 1) (e + 1) Q g3 go (some ⟨ga, 0, none⟩) np np (some ⟨gb, 0, none⟩) nt nt (i : Int) (j : Int) Mx from
      ⟨cn + 1, key cn 0 (by omega) M (by rw [part_zero]; exact hc) (fun _ _ => rfl) M (Mem.le_refl _)⟩
    intro e
    induction e with
    | zero =>
      intro j hj M1 hO1 hoff Mx hx
      rw [l73_35]
      rw [show j = lc.length by omega, part_end] at hO1
      obtain ⟨hO2, hrd1⟩ := hU M1 (lc.map (renU R)) hO1 hoff
      refine ⟨M1, hx, _, _, _, cell_of hO2.bo 0, hd0 M1 hrd1 _ fun ad had hd => ⟨ca, cn, cc, hd 3 _ rfl, ?_⟩⟩
      rw [if_neg (by simp; omega), hwi]
      rw [show ((p', s0', lu, lc) : Pr).1 = p' from rfl] at hO2
      have : (psA R P i).set i (p', s0', lu, lc.map (renU R)) = psA R P (i + 1) := hst
      exact ih (i + 1) (by omega) _ D Dt st (by rw [← this]; exact hO2)
    | succ e ihe =>
      intro j hj M1 hO1 hoff Mx hx
      rw [l73_35]
      obtain ⟨O1, hrd1⟩ := hU M1 _ hO1 hoff
      refine ⟨M1, hx, _, _, _, cell_of O1.bo 0, hd0 M1 hrd1 _ fun ad had hd => ⟨ca, cn, cc, hd 3 _ rfl, ?_⟩⟩
      rw [if_pos (by simp; omega)]
      refine ⟨_, _, _, cell_of O1.bo 0, hd0 M1 hrd1 _ fun ad had hd => ⟨ca, cn, cc, hd 3 _ rfl, ?_⟩⟩
      have hjl : j < lc.length := by omega
      have hjp : j < (part R lc j).length := by rw [part_len _ _ _ (by omega)]; exact hjl
      have epj := part_get R lc j hjl hjp
      refine idx' hO1.rd (by rw [part_len _ _ _ (by omega)]; exact hcn.symm) (by omega) (by omega) fun ad' had' hd' => ?_
      simp only [Int.toNat_natCast] at hd' ⊢
      rw [epj] at hd'
      obtain ⟨hcx, hox⟩ := hcl' lc[j] (List.getElem_mem hjl)
      obtain ⟨hx12, hx4⟩ := okX_get I hcx hox
      obtain ⟨o12, o4⟩ := hox
      have hps := part_step R lc j hjl
      generalize lc[j] = y at *
      obtain ⟨op, a⟩ := y
      refine ⟨_, hd' 0 _ rfl, _, hd' 1 _ rfl, newA_intro fun g222 m223 hg222 e223 hb223 hle223 => ?_⟩
      refine sto (c := #[.int .i64 0, .int .i64 0]) (t := 73) hb223 rfl (by simp) fun m224 e224 h224 hne224 => ?_
      have h224 : m224 g222 = some (.cells #[.int .i64 op, .int .i64 a] 73 (0, 0)) := h224
      have le224 : Mem.le M1 m224 := by rw [e224, e223, upd_upd]; exact le_upd hg222
      clear e224 e223 hne224 hb223 hle223
      have n222 : g222 ∉ Dc := fun h => by
        obtain ⟨o, ho⟩ := hO1.live _ h
        rw [hg222] at ho
        cases ho
      refine ⟨_, cell_of h224 0, ?_⟩
      have wj := wsucc (i := j) (n := cn) (by omega) (by omega)
      have O2 := O1.mono le224
      -- behind the choice of a number
      have fin : ∀ (v : Int) (m232 : Mem), (op, v) = renU R (op, a) → Mem.le M1 m232 → m232 g222 = some (.cells #[.int .i64 op, .int .i64 v] 73 (0, 0)) →
          (∃ S233 : Mem → Prop, S233 m232 ∧ (∃ (ra234 : Option Addr) (rn235 rc236 : Nat), ((∀ q237 : Mem, S233 q237 → Mem.cell? q237 ⟨go, 0, none⟩ = some (.slice ra234 rn235 rc236)) ∧ (optA ra234 fun d238 => (0 ≤ (i : Int) ∧ (i : Int) < (rn235 : Int) ∧ (∃ (ra239 : Option Addr) (rn240 rc241 : Nat), ((∀ q242 : Mem, S233 q242 → Mem.cell? q242 ((d238.add (Int.toNat (i : Int) * 4)).add 3) = some (.slice ra239 rn240 rc241)) ∧ (∃ y243 : Int, ((∀ q244 : Mem, S233 q244 → Mem.cell? q244 ⟨g222, 0, none⟩ = some (.int .i64 y243)) ∧ (∃ y245 : Int, ((∀ q246 : Mem, S233 q246 → Mem.cell? q246 ⟨g222, 1, none⟩ = some (.int .i64 y245)) ∧ (optA ra239 fun d247 => (0 ≤ (j : Int) ∧ (j : Int) < (rn240 : Int) ∧ (stoA m232 (d247.add (Int.toNat (j : Int) * 2)) [(.int .i64 y243), (.int .i64 y245)] fun m248 => L73_35 (look t) (d + 1) (e + 1) Q g3 go (some ⟨ga, 0, none⟩) np np (some ⟨gb, 0, none⟩) nt nt (i : Int) (IntKind.i64.wrap ((j : Int) + (1 : Int))) m248)))))))))))))) := by
        intro v m232 hv hle hg
        refine ⟨Mem.le m232, Mem.le_refl _, _, _, _, held (cell_of (hle _ _ O1.bo) 0), hd0 m232 (hrd1.le hle) _ fun ad had hd => ?_⟩
        simp only [Int.toNat_natCast]
        refine ⟨ca, cn, cc, held (hd 3 _ rfl), _, held (cell_of hg 0), _, held (cell_of hg 1), ?_⟩
        have hOm : OwnL m232 ⟨ca, cn, cc⟩ (part R lc j) Dc := dIns.own_le hle hO1
        obtain ⟨ad2, ha2, hk⟩ := hOm.setE hjp (op, v)
        have ha2 : ca = some ad2 := ha2
        rw [ha2]
        refine ⟨by omega, by omega, ?_⟩
        refine hk _ fun M2 hM2 hoff2 => ?_
        rw [wj]
        rw [hps _ hv] at hM2
        have hwl : Mem.le (weld M M2 Dc) M2 := weld_le fun b hb o ho => by rw [hoff2 b hb]; exact hle _ _ (by rw [hoff b hb]; exact ho)
        exact ihe (j + 1) (by omega) (weld M M2 Dc) (hM2.ext fun b hb => weld_in hb) (fun b hb => weld_off hb) M2 hwl
      by_cases c12 : op = 12
      · subst c12
        rw [if_pos (by decide)]
        obtain ⟨ha0, hat⟩ := o12 rfl
        have ha0 : 0 ≤ a := ha0
        have hat : a < (np : Int) := hat
        have hxl : a.toNat < R.1.length := (hx12 rfl).1
        refine ⟨_, cell_of h224 1, ha0, hat, _, rowAt1 (α := Int) O2.ba (rkV_get hxl) rfl, ?_⟩
        refine sto (c := #[.int .i64 12, .int .i64 a]) (t := 73) (k := 1) h224 rfl (by simp) fun m232 e232 h232 hne232 => ?_
        exact fin _ m232 rfl (le_other le224 hg222 hne232) h232
      · rw [if_neg (by simpa using c12)]
        by_cases c4 : op = 4
        · subst c4
          rw [if_pos (by decide)]
          obtain ⟨ha0, hat⟩ := o4 rfl
          have ha0 : 0 ≤ a := ha0
          have hat : a < (nt : Int) := hat
          have hxl : a.toNat < R.2.1.length := (hx4 rfl).1
          refine ⟨_, cell_of h224 1, ha0, hat, _, rowAt1 (α := Int) O2.bb (rkV_get hxl) rfl, ?_⟩
          refine sto (c := #[.int .i64 4, .int .i64 a]) (t := 73) (k := 1) h224 rfl (by simp) fun m232 e232 h232 hne232 => ?_
          exact fin _ m232 rfl (le_other le224 hg222 hne232) h232
        · rw [if_neg (by simpa using c4)]
          exact fin a m224 (by unfold renU; rw [if_neg c12, if_neg c4]) le224 h224
end
end Go.Proofs.Ytcbjdodehjpddaa.Abs
