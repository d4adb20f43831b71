/- Modules: what code is come to; the reference's function, and the program's step. -/
import Derived.Test.YtcbjdodehjpddaaPc
namespace Go.Proofs.Ytcbjdodehjpddaa.Abs
open Go.RowKit
set_option linter.unusedVariables false
set_option linter.unusedSimpArgs false
set_option linter.unusedSectionVars false
set_option maxRecDepth 20000
set_option maxHeartbeats 400000

/-- A row of one's own and a row that grows. -/
structure Un1 (m M : Mem) (gk : Nat) (kl : List Bool) (s : Sl) (todo : List Int) (D : List Nat) : Prop where
  le : Mem.le m M
  bk : M gk = some (.cells (flat Enc.e kl).toArray 4 (0, 0))
  q : OwnL M s todo D
  nd : (gk :: D).Nodup
  fr : ∀ b ∈ gk :: D, m b = none
section
variable {m M M' : Mem} {gk : Nat} {kl : List Bool} {s : Sl} {todo : List Int} {D : List Nat} {K : Mem → Prop}
theorem Un1.mono (I : Un1 m M gk kl s todo D) (h : Mem.le M M') : Un1 m M' gk kl s todo D :=
  ⟨Mem.le_trans I.le h, h _ _ I.bk, (Ds.rows Int).own_le h I.q, I.nd, I.fr⟩
theorem Un1.setK (I : Un1 m M gk kl s todo D) {i : Nat} {x : Bool} {a : Addr} (ha : a = ⟨gk, i * 1, none⟩) (hi : i < kl.length)
    (hK : ∀ M', Un1 m M' gk (kl.set i x) s todo D → (∀ b, b ≠ gk → M' b = M b) → K M') : stoA M a [.bool x] K := by
  have hn : gk ∉ D := (List.nodup_cons.1 I.nd).1
  refine sto_elem (α := Bool) (x := x) (spare := []) (by rw [List.append_nil]; exact I.bk) ha hi (hK _ ⟨le_upd_fresh I.le (I.fr gk (by simp)), ?_, ?_, I.nd, I.fr⟩ (fun b hb => upd_ne hb))
  · rw [List.append_nil]; exact upd_same _ _ _
  · exact I.q.ext fun b hb => upd_ne (by rintro rfl; exact hn hb)
theorem Un1.push (I : Un1 m M gk kl s todo D) {gs : Nat} {x : Int} {K : Option Addr → Nat → Mem → Prop} (hx : M gs = some (.cells #[.int .i64 x] 3 (0, 0))) (hl : todo.length ≤ 2 ^ 30)
    (hK : ∀ (s' : Sl) (D' : List Nat) (M' : Mem), s'.n = s.n + 1 → Un1 m M' gk kl s' (todo ++ [x]) D' → (∀ b o, M b = some o → b ∉ D → M' b = some o ∧ b ∉ D') → K s'.a s'.c M') :
    appR M s.a s.n s.c (some ⟨gs, 0, none⟩) 1 1 8 #[.int .i64 0] 3 K := by
  have h2 : gk ∉ D := (List.nodup_cons.1 I.nd).1
  refine app_sl (α := Int) (l := todo) (l2 := [x]) (D := D) rfl rfl (by decide) (by decide) (by decide) I.q rfl (Rd.of_block (spare := []) hx (by rfl)) (by simp; omega) fun s' D' M' hsn hO' hoff hfr hnd' => ?_
  have fr' : ∀ b ∈ D', b ∈ D ∨ M b = none := fun b hb => by
    rcases hfr with e | hfr
    · exact .inl (e ▸ hb)
    · exact .inr (hfr b hb)
  have keep : ∀ b o, M b = some o → b ∉ D → b ∉ D' := fun b o ho hb h => by
    rcases fr' _ h with h | h
    · exact hb h
    · rw [ho] at h; cases h
  have nk := keep _ _ I.bk h2
  have fm : ∀ b ∈ D', m b = none := fun b hb => by
    rcases fr' _ hb with h | h
    · exact I.fr b (by simp [h])
    · exact le_none I.le h
  refine hK s' D' M' hsn ⟨le_off I.le fm hoff, by rw [hoff _ nk]; exact I.bk, hO', List.nodup_cons.2 ⟨nk, hnd'⟩, ?_⟩ fun b o ho hb => ⟨by rw [hoff b (keep b o ho hb)]; exact ho, keep b o ho hb⟩
  intro b hb
  rcases List.mem_cons.1 hb with rfl | hb
  · exact I.fr _ (by simp)
  · exact fm b hb
end
theorem comeM_pos {st : RS} {p : Int} (h : p < st.1.length) (hp : p.toNat < st.1.length) (hb : st.1[p.toNat] = false) : comeM st p = (st.1.set p.toNat true, st.2 ++ [p]) := by
  unfold comeM; rw [if_pos h, if_neg (by simp [List.getD_eq_getElem?_getD, hp, hb])]
theorem comeM_had {st : RS} {p : Int} (h : p < st.1.length) (hp : p.toNat < st.1.length) (hb : st.1[p.toNat] = true) : comeM st p = st := by
  unfold comeM; rw [if_pos h, if_pos (by simp [List.getD_eq_getElem?_getD, hp, hb])]
theorem comeM_far {st : RS} {p : Int} (h : ¬ p < st.1.length) : comeM st p = st := by unfold comeM; rw [if_neg h]

def s65 : Spec := fun args m Q => ∃ (h : dPr.H) (x : Pr), args = [vP h] ∧ dPr.At m h x ∧ plainC x.2.2.2 = true ∧
  ∀ (g : Nat) (M : Mem), Mem.le m M → m g = none → M g = some (.cells (flat Enc.e (runM x.2.2.2 x.2.2.2.length 0 ((List.replicate x.2.2.2.length false).set 0 true, [0])).1).toArray 4 (0, 0)) → Q (.slice (some ⟨g, 0, none⟩) x.2.2.2.length x.2.2.2.length) M
theorem f65 (t : Tab) (h48 : look t 48 = s48) : ∀ args m Q, s65 args m Q → FA Try.prog (look t) kp65 Try.f65 args m Q := by
  rintro args m Q ⟨(⟨p, s, ⟨ua, un, uc⟩, ⟨ca, cn, cc⟩⟩ : PH), ⟨p0, s0, lu, lc⟩, rfl, hA, hpl, hq⟩
  obtain ⟨hp, hs, hu, hc⟩ := id hA
  have hcn : cn = lc.length := hc.1
  have hcr : Rd m ca lc := hc.2
  have hpl : plainC lc = true := hpl
  obtain ⟨hp1, hp2, hp3, hp4⟩ := plain_out hpl
  show FA Try.prog (look t) kp65 Try.f65 [.agg #[.int .i64 p, .int .i64 s, .slice ua un uc, .slice ca cn cc]] m Q
  rw [e65]
  refine newA_intro fun g1 m2 hg1 e2 hb1 hle2 => ?_
  refine ⟨_, _, _, cell_of hb1 3, by omega, by omega, by omega, by omega, newA_intro fun g7 m8 hg7 e8 hb7 hle8 => newA_intro fun g9 m10 hg9 e10 hb9 hle10 => ?_⟩
  simp only [Int.toNat_natCast] at hb7 ⊢
  have z1 : zeroRow #[.bool false] (cn * 1) = (flat Enc.e (List.replicate cn false)).toArray := zeroRow_eq false cn
  rw [z1] at hb7
  refine ⟨by omega, by omega, ?_⟩
  have n79 : g7 ≠ g9 := ne_of_none hg9 hb7
  have U0 : Un1 m2 m10 g7 (List.replicate cn false) ⟨some ⟨g9, 0, none⟩, 1, 1⟩ [0] [g9] := by
    refine ⟨Mem.le_trans hle8 hle10, hle10 _ _ hb7, ⟨rfl, .inr ⟨g9, 3, [], rfl, rfl, hb9, rfl⟩⟩, by simp [n79], ?_⟩
    intro b hb
    simp only [List.mem_cons, List.not_mem_nil, or_false] at hb
    rcases hb with rfl | rfl
    · exact hg7
    · exact le_none hle8 hg9
  refine U0.setK (i := 0) (x := true) (by rw [add_eq rfl]; rfl) (by simp; omega) fun m11 U _ => ⟨cn + 1, ?_⟩
  suffices key : ∀ d i, i + d = lc.length → ∀ M s (st : RS) D, Un1 m2 M g7 st.1 s st.2 D → RI lc.length st → runM lc d i st = runM lc lc.length 0 ((List.replicate lc.length false).set 0 true, [0]) →
      L65_5 (look t) (d + 1) Q g1 (some ⟨g7, 0, none⟩) cn cn s.a s.n s.c (i : Int) M by
    have := key lc.length 0 (by omega) m11 ⟨some ⟨g9, 0, none⟩, 1, 1⟩ ((List.replicate cn false).set 0 true, [0]) [g9] U (by rw [hcn]; exact ri0 hp1) (by rw [hcn])
    rw [← hcn] at this
    exact this
  have hdM : ∀ (q : Int), 0 ≤ q → q < (cn : Int) → ∀ K : Addr → Prop, (∀ ad, (∀ M, Mem.le m2 M → M.cell? (ad.add (q.toNat * 2)) = some (.int .i64 (gI lc q).1)) → (∀ M, Mem.le m2 M → M.cell? ((ad.add (q.toNat * 2)).add 1) = some (.int .i64 (gI lc q).2)) → K ad) → optA ca fun ad => 0 ≤ q ∧ q < (cn : Int) ∧ K ad := by
    intro q q0 q1 K hK
    obtain ⟨hl, eg⟩ := gI_get (c := lc) q0 (by omega)
    exact idx' (hcr.le hle2) hcn.symm q0 q1 fun ad had hd => hK ad (fun M hM => cell_le hM (by have e0 := hd 0 _ rfl; rw [add_add, Nat.add_zero] at e0; rw [eg]; exact e0)) (fun M hM => cell_le hM (by rw [eg]; exact hd 1 _ rfl))
  intro d
  induction d using Nat.strongRecOn with
  | ind d ih =>
    intro i hi M s1 st D U J hR
    rw [l65_5]
    refine ⟨M, Mem.le_refl _, ?_⟩
    have hsn : s1.n = st.2.length := U.q.1
    have hcnt := J.cnt
    by_cases hlt : i < st.2.length
    case neg =>
      rw [if_neg (by simp; omega)]
      rw [runM_stop hlt] at hR
      refine ret_intro (Mem.le_refl _) ?_
      rw [hcn]
      exact hq g7 M (Mem.le_trans hle2 U.le) (le_none hle2 hg7) (by rw [← hR]; exact U.bk)
    case pos =>
      obtain ⟨d', rfl⟩ : ∃ d', d = d' + 1 := ⟨d - 1, by omega⟩
      rw [if_pos (by simp; omega)]
      rw [runM_go hlt] at hR
      have hv := J.mem _ (List.getElem_mem hlt)
      have wi := wsucc (i := i) (n := lc.length) (by omega) (by omega)
      refine ⟨Mem.le M, Mem.le_refl _, _, _, _, held (cell_of (U.le _ _ hb1) 3), ?_⟩
      refine idx' U.q.rd hsn.symm (by omega) (by omega) fun ad had hd => ?_
      simp only [Int.toNat_natCast] at hd ⊢
      have hd0 := hd 0 _ rfl
      rw [add_add, Nat.add_zero] at hd0
      have had0 : s1.a = some ad := had
      generalize hy : st.2[i] = y at *
      refine ⟨_, held hd0, ?_⟩
      refine hdM y (by omega) (by omega) _ fun ad2 r0 r1 => ⟨_, fun q hq' => r0 q (Mem.le_trans U.le hq'), _, fun q hq' => r1 q (Mem.le_trans U.le hq'), newA_intro fun g27 m28 hg27 e28 hb28 hle28 => ⟨hle28, ?_⟩⟩
      have hgm := fun (h : leadsB (gI lc y).1 = true) => hp4 _ (gI_mem (c := lc) (p := y) (by omega) (by omega)) h
      have hst : stepM lc st y = (let st1 := if (gI lc y).1 = 18 ∨ (gI lc y).1 = 24 then st else comeM st (y + 1); if leadsB (gI lc y).1 then comeM st1 (gI lc y).2 else st1) := rfl
      generalize gI lc y = z at *
      obtain ⟨op, a⟩ := z
      refine sto (c := #[.int .i64 0, .int .i64 0]) (t := 73) hb28 rfl (by simp) fun m29 e29 h29 hne29 => ?_
      have h29 : m29 g27 = some (.cells #[.int .i64 op, .int .i64 a] 73 (0, 0)) := h29
      have le29 : Mem.le M m29 := by rw [e29, e28, upd_upd]; exact le_upd hg27
      have U1 := U.mono le29
      have c1 := U1.le _ _ hb1
      have hy2 : y < (lc.length : Int) := hv.2
      have n27 : g27 ∉ D := fun hb => by obtain ⟨o, ho⟩ := U.q.live _ hb; rw [hg27] at ho; cases ho
      -- the second half: where the instruction leads
      have second : ∀ (st1 : RS) (s2 : Sl) (D2 : List Nat) (M1 : Mem), Un1 m2 M1 g7 st1.1 s2 st1.2 D2 → RI lc.length st1 → M1 g27 = some (.cells #[.int .i64 op, .int .i64 a] 73 (0, 0)) → g27 ∉ D2 → (if leadsB op then comeM st1 a else st1) = stepM lc st y →
          (∃ y72 : Int, (Mem.cell? M1 ⟨g27, 0, none⟩ = some (.int .i64 y72) ∧ (look t 48 [(.int .i64 y72)] M1 fun v74 m75 => (∃ b76 : Bool, (v74 = (.bool b76) ∧ (if b76 = true then (∃ y77 : Int, (Mem.cell? m75 ⟨g27, 1, none⟩ = some (.int .i64 y77) ∧ (optA (some (⟨g7, 0, none⟩ : Addr)) fun d79 => (0 ≤ y77 ∧ y77 < (cn : Int) ∧ (∃ b80 : Bool, (Mem.cell? m75 (d79.add (Int.toNat y77 * 1)) = some (.bool b80) ∧ (if (!b80) = true then (∃ y82 : Int, (Mem.cell? m75 ⟨g27, 1, none⟩ = some (.int .i64 y82) ∧ (optA (some (⟨g7, 0, none⟩ : Addr)) fun d84 => (0 ≤ y82 ∧ y82 < (cn : Int) ∧ (stoA m75 (d84.add (Int.toNat y82 * 1)) [(.bool true)] fun m85 => (∃ y86 : Int, (Mem.cell? m85 ⟨g27, 1, none⟩ = some (.int .i64 y86) ∧ (newA m85 (.cells #[(.int .i64 y86)] 3 (0, 0)) fun g88 m89 => (appR m89 s2.a s2.n s2.c (some ⟨g88, 0, none⟩) 1 1 8 #[(.int .i64 (0 : Int))] 3 fun ra90 rc91 m92 => L65_5 (look t) (d' + 1) Q g1 (some ⟨g7, 0, none⟩) cn cn ra90 (s2.n + 1) rc91 (IntKind.i64.wrap ((i : Int) + (1 : Int))) m92))))))))) else L65_5 (look t) (d' + 1) Q g1 (some ⟨g7, 0, none⟩) cn cn s2.a s2.n s2.c (IntKind.i64.wrap ((i : Int) + (1 : Int))) m75))))))) else L65_5 (look t) (d' + 1) Q g1 (some ⟨g7, 0, none⟩) cn cn s2.a s2.n s2.c (IntKind.i64.wrap ((i : Int) + (1 : Int))) m75)))))) := by
        intro st1 s2 D2 M1 U2 J2 hg hD2 he
        refine ⟨_, cell_of hg 0, via h48 ⟨_, rfl, _, rfl, ?_⟩⟩
        cases hb : leadsB op with
        | false =>
          rw [if_neg (by decide), wi]
          rw [hb, if_neg (by decide)] at he
          exact ih d' (by omega) (i + 1) (by omega) M1 s2 st1 D2 U2 J2 (by rw [he]; exact hR)
        | true =>
          rw [if_pos rfl]
          rw [hb, if_pos rfl] at he
          obtain ⟨a0, a1⟩ := hgm hb
          have a0 : 0 ≤ a := a0
          have a1 : a < (lc.length : Int) := a1
          have hak : a.toNat < st1.1.length := by rw [J2.len]; omega
          have hal : a < (st1.1.length : Int) := by rw [J2.len]; exact a1
          have J3 := comeM_ok J2 a0
          refine ⟨_, cell_of hg 1, a0, by omega, _, rowAt1 (α := Bool) U2.bk (List.getElem?_eq_getElem hak) rfl, ?_⟩
          cases hsb : st1.1[a.toNat] with
          | true =>
            rw [if_neg (by decide), wi]
            rw [comeM_had hal hak hsb] at he
            exact ih d' (by omega) (i + 1) (by omega) M1 s2 st1 D2 U2 J2 (by rw [he]; exact hR)
          | false =>
            rw [if_pos (by decide)]
            rw [comeM_pos hal hak hsb] at he J3
            refine ⟨_, cell_of hg 1, a0, by omega, ?_⟩
            refine U2.setK (i := a.toNat) (x := true) (by rw [add_eq rfl, Nat.zero_add]) hak fun m85 U3 ho3 => ?_
            have n7 : g27 ≠ g7 := fun e => by rw [e, U.bk] at hg27; cases hg27
            have hg85 : m85 g27 = some (.cells #[.int .i64 op, .int .i64 a] 73 (0, 0)) := by rw [ho3 _ n7]; exact hg
            refine ⟨_, cell_of hg85 1, newA_intro fun g88 m89 hg88 e89 hb89 hle89 => ?_⟩
            have hcnt2 := J2.cnt
            refine (U3.mono hle89).push hb89 (by omega) fun s3 D3 m92 hs3 U4 _ => ?_
            rw [← hs3, wi]
            exact ih d' (by omega) (i + 1) (by omega) m92 s3 (st1.1.set a.toNat true, st1.2 ++ [a]) D3 U4 J3 (by rw [he]; exact hR)
      have had29 : s1.a = some ad := had0
      refine idx' U1.q.rd hsn.symm (by omega) (by omega) fun ad3 had3 hd3 => ?_
      simp only [Int.toNat_natCast] at hd3 ⊢
      have hd30 := hd3 0 _ rfl
      rw [add_add, Nat.add_zero] at hd30
      rw [hy] at hd30
      refine ⟨_, hd30, _, cell_of h29 0, ?_⟩
      by_cases c18 : op = 18
      · rw [if_neg (by simpa using c18)]
        exact second st s1 D m29 U1 J h29 n27 (by rw [hst]; simp [c18])
      · rw [if_pos (by simpa using c18)]
        refine ⟨_, cell_of h29 0, ?_⟩
        by_cases c24 : op = 24
        · rw [if_neg (by simpa using c24)]
          exact second st s1 D m29 U1 J h29 n27 (by rw [hst]; simp [c24])
        · rw [if_pos (by simpa using c24)]
          have wy : IntKind.i64.wrap (y + 1) = y + 1 := w64 (by omega) (by omega)
          refine ⟨_, _, _, cell_of c1 3, ?_⟩
          rw [wy]
          have hst' : (if leadsB op then comeM (comeM st (y + 1)) a else comeM st (y + 1)) = stepM lc st y := by rw [hst]; simp [c18, c24]
          by_cases hfar : y + 1 < (cn : Int)
          · rw [if_pos (by simpa using hfar)]
            have hyk : (y + 1).toNat < st.1.length := by rw [J.len]; omega
            have hyl : y + 1 < (st.1.length : Int) := by rw [J.len]; omega
            refine ⟨by omega, hfar, _, rowAt1 (α := Bool) U1.bk (List.getElem?_eq_getElem hyk) rfl, ?_⟩
            have J3 := comeM_ok J (p := y + 1) (by omega)
            cases hsb : st.1[(y + 1).toNat] with
            | true =>
              rw [if_neg (by decide)]
              rw [comeM_had hyl hyk hsb] at hst'
              exact second st s1 D m29 U1 J h29 n27 hst'
            | false =>
              rw [if_pos (by decide)]
              rw [comeM_pos hyl hyk hsb] at hst' J3
              refine ⟨by omega, hfar, ?_⟩
              refine U1.setK (i := (y + 1).toNat) (x := true) (by rw [add_eq rfl, Nat.zero_add]) hyk fun m45 U3 ho3 => newA_intro fun g46 m47 hg46 e47 hb47 hle47 => ?_
              have n7 : g27 ≠ g7 := fun e => by rw [e, U.bk] at hg27; cases hg27
              have hg45 : m45 g27 = some (.cells #[.int .i64 op, .int .i64 a] 73 (0, 0)) := by rw [ho3 _ n7]; exact h29
              refine (U3.mono hle47).push hb47 (by omega) fun s3 D3 m50 hs3 U4 hk4 => ?_
              obtain ⟨k1, k2⟩ := hk4 _ _ (hle47 _ _ hg45) n27
              rw [← hs3]
              exact second (st.1.set (y + 1).toNat true, st.2 ++ [y + 1]) s3 D3 m50 U4 J3 k1 k2 hst'
          · rw [if_neg (by simpa using hfar)]
            rw [comeM_far (st := st) (p := y + 1) (by rw [J.len]; omega)] at hst'
            exact second st s1 D m29 U1 J h29 n27 hst'

/-! ### The program's step -/
/-- The rows that the program's step goes over: their headers lie in two boxes. -/
structure CI (m M : Mem) (f0 f1 gk n : Nat) (st : RS) (s : Sl) (D : List Nat) : Prop where
  u : Un1 m M gk st.1 s st.2 D
  b0 : M f0 = some (.cells #[.slice (some ⟨gk, 0, none⟩) n n] 87 (0, 0))
  b1 : M f1 = some (.cells #[vs s] 44 (0, 0))
  nd : f0 ∉ gk :: D ∧ f1 ∉ gk :: D ∧ f0 ≠ f1
  fr : m f0 = none ∧ m f1 = none
theorem CI.mono {m M M' : Mem} {f0 f1 gk n : Nat} {st : RS} {s : Sl} {D : List Nat} (I : CI m M f0 f1 gk n st s D) (h : Mem.le M M') : CI m M' f0 f1 gk n st s D := ⟨I.u.mono h, h _ _ I.b0, h _ _ I.b1, I.nd, I.fr⟩
def s66 : Spec := fun args m Q => ∃ (mb : Mem) (f0 f1 gk n : Nat) (st : RS) (s : Sl) (D : List Nat) (p : Int), args = [.int .i64 p, .pointer (some ⟨f0, 0, none⟩), .pointer (some ⟨f1, 0, none⟩)] ∧ CI mb m f0 f1 gk n st s D ∧ RI n st ∧ n ≤ 2 ^ 29 ∧ 0 ≤ p ∧
  ∀ (s' : Sl) (D' : List Nat) (m' : Mem), CI mb m' f0 f1 gk n (comeM st p) s' D' → (∀ b o, m b = some o → b ≠ f1 → b ≠ gk → b ∉ D → m' b = some o ∧ b ∉ D') → Q (.tuple #[]) m'
theorem f66 (t : Tab) : ∀ args m Q, s66 args m Q → FA Try.prog (look t) kp66 Try.f66 args m Q := by
  rintro args m Q ⟨mb, f0, f1, gk, n, st, s, D, p, rfl, I, J, hn, h0, hq⟩
  rw [e66]
  refine ⟨_, _, _, cell_of I.b0 0, ?_⟩
  have same : comeM st p = st → ret Q (.tuple #[]) m := fun e => ret_intro (Mem.le_refl _) (hq s D m (by rw [e]; exact I) fun b o ho _ _ h => ⟨ho, h⟩)
  have hl := J.len
  by_cases hp : p < (n : Int)
  case neg =>
    rw [if_neg (by simpa using hp)]
    exact same (comeM_far (by rw [hl]; exact hp))
  rw [if_pos (by simpa using hp)]
  have hpk : p.toNat < st.1.length := by omega
  have hpl : p < (st.1.length : Int) := by omega
  refine ⟨_, _, _, cell_of I.b0 0, h0, hp, _, rowAt1 (α := Bool) I.u.bk (List.getElem?_eq_getElem hpk) rfl, ?_⟩
  cases hb : st.1[p.toNat] with
  | true =>
    rw [if_neg (by decide)]
    exact same (comeM_had hpl hpk hb)
  | false =>
    rw [if_pos (by decide)]
    refine ⟨_, _, _, cell_of I.b0 0, h0, hp, ?_⟩
    refine I.u.setK (i := p.toNat) (x := true) (by rw [add_eq rfl, Nat.zero_add]) hpk fun m17 U ho => ?_
    obtain ⟨n0, n1, n01⟩ := I.nd
    have k1 : f1 ≠ gk := fun e => n1 (by simp [e])
    have k0 : f0 ≠ gk := fun e => n0 (by simp [e])
    have b1 : m17 f1 = some (.cells #[vs s] 44 (0, 0)) := by rw [ho _ k1]; exact I.b1
    have b0 : m17 f0 = some (.cells #[.slice (some ⟨gk, 0, none⟩) n n] 87 (0, 0)) := by rw [ho _ k0]; exact I.b0
    refine ⟨_, _, _, cell_of b1 0, newA_intro fun g22 m23 hg22 e23 hb23 hle23 => ?_⟩
    have hcnt := J.cnt
    refine (U.mono hle23).push hb23 (by omega) fun s' D' m26 hs' U' hk' => ?_
    have d1 : f1 ∉ D := fun h => n1 (by simp [h])
    have d0 : f0 ∉ D := fun h => n0 (by simp [h])
    obtain ⟨c1, c1'⟩ := hk' _ _ (hle23 _ _ b1) d1
    obtain ⟨c0, c0'⟩ := hk' _ _ (hle23 _ _ b0) d0
    refine sto (c := #[vs s]) (t := 44) c1 rfl (by simp) fun m27 e27 h27 hne27 => ?_
    have h27 : m27 f1 = some (.cells #[.slice s'.a (s.n + 1) s'.c] 44 (0, 0)) := h27
    rw [← hs'] at h27
    have hgk : gk ∉ D' := (List.nodup_cons.1 U'.nd).1
    refine ret_intro (Mem.le_refl _) (hq s' D' m27 ?_ fun b o hbo h1 h2 h3 => ?_)
    · rw [comeM_pos hpl hpk hb]
      refine ⟨⟨?_, ?_, ?_, U'.nd, U'.fr⟩, ?_, h27, ⟨?_, ?_, n01⟩, I.fr⟩
      · exact le_other U'.le I.fr.2 hne27
      · rw [hne27 _ (Ne.symm k1)]; exact U'.bk
      · exact U'.q.ext fun b hb => hne27 b (by rintro rfl; exact c1' hb)
      · rw [hne27 _ n01]; exact c0
      · simp [k0, c0']
      · simp [k1, c1']
    · obtain ⟨r1, r2⟩ := hk' b o (hle23 _ _ (by rw [ho _ h2]; exact hbo)) h3
      exact ⟨by rw [hne27 _ h1]; exact r1, r2⟩
end Go.Proofs.Ytcbjdodehjpddaa.Abs
