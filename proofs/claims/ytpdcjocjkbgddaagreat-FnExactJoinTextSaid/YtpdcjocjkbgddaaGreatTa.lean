/- Copying: words that are set and copied; rows of objects (plain). -/
import Derived.Test.YtpdcjocjkbgddaaGreatRx
namespace Go.Proofs.YtpdcjocjkbgddaaGreat.Abs
open Go.RowKit
set_option linter.unusedVariables false
set_option linter.unusedSimpArgs false
set_option maxRecDepth 20000
def setW (ws : List U64) (i x : Int) : List U64 := ws.set i.toNat ⟨x⟩
theorem setW_len (ws : List U64) (i x : Int) : (setW ws i x).length = ws.length := by unfold setW; rw [List.length_set]
theorem gw_set {ws : List U64} {i x j : Int} (i0 : 0 ≤ i) (i1 : i < ws.length) (j0 : 0 ≤ j) : gw (setW ws i x) j = if j = i then x else gw ws j := by
  unfold gw setW
  rw [List.getD_eq_getElem?_getD, List.getElem?_set]
  by_cases c : j = i
  · subst c
    rw [if_pos rfl, if_pos (by omega), if_pos rfl]; rfl
  · rw [if_neg (by omega), if_neg c, ← List.getD_eq_getElem?_getD]
theorem gw_ext {ws ws' : List U64} (hl : ws.length = ws'.length) (h : ∀ j : Int, 0 ≤ j → j < ws.length → gw ws j = gw ws' j) : ws = ws' := by
  apply List.ext_getElem hl
  intro i h1 h2
  have := h i (by omega) (by omega)
  unfold gw at this
  rw [Int.toNat_natCast, List.getD_eq_getElem?_getD, List.getD_eq_getElem?_getD, List.getElem?_eq_getElem h1, List.getElem?_eq_getElem h2] at this
  have e : ws[i].v = ws'[i].v := this
  cases hx : ws[i]
  cases hy : ws'[i]
  rw [hx, hy] at e
  simp at e
  rw [e]
theorem setW_same {ws : List U64} {i x : Int} (i0 : 0 ≤ i) (i1 : i < ws.length) (h : gw ws i = x) : setW ws i x = ws := by
  refine gw_ext (setW_len _ _ _) fun j j0 j1 => ?_
  rw [gw_set i0 i1 j0]
  split
  · rename_i e; rw [e, h]
  · rfl
/-- n words are copied from p to q. -/
def copyW (ws : List U64) (q p : Int) : Nat → List U64
  | 0 => ws
  | n + 1 => setW (copyW ws q p n) (q + n) (gw (copyW ws q p n) (p + n))
theorem copyW_len (ws : List U64) (q p : Int) : ∀ n : Nat, (copyW ws q p n).length = ws.length
  | 0 => rfl
  | n + 1 => by unfold copyW; rw [setW_len, copyW_len ws q p n]
theorem gw_copy {ws : List U64} {q p : Int} (q0 : 0 ≤ q) (p0 : 0 ≤ p) : ∀ (n : Nat), q + n ≤ ws.length → (p + n ≤ q ∨ q + n ≤ p) → ∀ j : Int, 0 ≤ j → gw (copyW ws q p n) j = if q ≤ j ∧ j < q + n then gw ws (p + (j - q)) else gw ws j
  | 0, _, _, j, j0 => by rw [if_neg (by omega)]; rfl
  | n + 1, hn, hd, j, j0 => by
    have ih := gw_copy (ws := ws) q0 p0 n (by omega) (by omega)
    unfold copyW
    rw [gw_set (by omega) (by rw [copyW_len]; omega) j0]
    by_cases c : j = q + n
    · rw [if_pos c, if_pos (by omega), ih _ (by omega), if_neg (by omega)]
      congr 1
      omega
    · rw [if_neg c, ih j j0]
      by_cases c2 : q ≤ j ∧ j < q + n
      · rw [if_pos c2, if_pos (by omega)]
      · rw [if_neg c2, if_neg (by omega)]
theorem inW_set {ws : List U64} (h : ∀ x ∈ ws, inW x.v) {i x : Int} (hx : inW x) : ∀ y ∈ setW ws i x, inW y.v := by
  intro y hy
  unfold setW at hy
  rcases List.mem_or_eq_of_mem_set hy with h1 | h1
  · exact h y h1
  · rw [h1]; exact hx
theorem inW_copy {ws : List U64} (h : ∀ x ∈ ws, inW x.v) (q p : Int) : ∀ n : Nat, ∀ y ∈ copyW ws q p n, inW y.v
  | 0 => h
  | n + 1 => by
    unfold copyW
    exact inW_set (inW_copy h q p n) (gw_in (inW_copy h q p n) _)
/-- Objects that stand one behind the other, from s to e. -/
def Chain (szf : Int → Int) : Int → Int → List Int → Prop
  | s, e, [] => s = e
  | s, e, p :: T => p = s ∧ 0 ≤ szf p ∧ p + szf p + 1 ≤ e ∧ Chain szf (p + szf p + 1) e T
theorem Chain.le {szf : Int → Int} : ∀ {T : List Int} {s e : Int}, Chain szf s e T → s ≤ e
  | [], s, e, h => by have h : s = e := h; omega
  | p :: T, s, e, ⟨h1, h2, h3, h4⟩ => by have := Chain.le h4; omega
theorem Chain.mem {szf : Int → Int} : ∀ {T : List Int} {s e : Int}, Chain szf s e T → ∀ p ∈ T, s ≤ p ∧ 0 ≤ szf p ∧ p + szf p + 1 ≤ e
  | [], s, e, h, p, hp => by cases hp
  | q :: T, s, e, ⟨h1, h2, h3, h4⟩, p, hp => by
    rcases List.mem_cons.1 hp with rfl | hp
    · exact ⟨by omega, h2, h3⟩
    · have := Chain.mem h4 p hp
      exact ⟨by omega, this.2⟩
theorem Chain.apart {szf : Int → Int} : ∀ {T : List Int} {s e : Int}, Chain szf s e T → ∀ p ∈ T, ∀ q ∈ T, p < q → p + szf p + 1 ≤ q
  | [], s, e, h, p, hp, q, hq, hpq => by cases hp
  | x :: T, s, e, ⟨h1, h2, h3, h4⟩, p, hp, q, hq, hpq => by
    rcases List.mem_cons.1 hp with e1 | hp2
    · rcases List.mem_cons.1 hq with e2 | hq2
      · omega
      · rw [e1] at hpq ⊢
        exact (Chain.mem h4 q hq2).1
    · rcases List.mem_cons.1 hq with e2 | hq2
      · have := (Chain.mem h4 p hp2).1; omega
      · exact Chain.apart h4 p hp2 q hq2 hpq
theorem Chain.push {szf : Int → Int} : ∀ {T : List Int} {s e z : Int}, Chain szf s e T → 0 ≤ szf e → z = e + szf e + 1 → Chain szf s z (T ++ [e])
  | [], s, e, z, h, h0, hz => by
    have h : s = e := h
    exact ⟨h.symm, h0, by omega, hz.symm⟩
  | p :: T, s, e, z, ⟨h1, h2, h3, h4⟩, h0, hz => ⟨h1, h2, by omega, Chain.push h4 h0 hz⟩
theorem Chain.congr {f g : Int → Int} : ∀ {T : List Int} {s e : Int}, Chain f s e T → (∀ p ∈ T, g p = f p) → Chain g s e T
  | [], s, e, h, _ => h
  | p :: T, s, e, ⟨h1, h2, h3, h4⟩, hc => by
    have e1 := hc p (by simp)
    refine ⟨h1, by rw [e1]; exact h2, by rw [e1]; exact h3, ?_⟩
    rw [e1]
    exact Chain.congr h4 fun q hq => hc q (by simp [hq])
theorem Chain.next {szf : Int → Int} : ∀ {T : List Int} {s e : Int}, Chain szf s e T → ∀ p ∈ T, p + szf p + 1 = e ∨ p + szf p + 1 ∈ T
  | [], s, e, h, p, hp => by cases hp
  | q :: T, s, e, ⟨h1, h2, h3, h4⟩, p, hp => by
    rcases List.mem_cons.1 hp with rfl | hp
    · cases T with
      | nil => left; exact h4
      | cons x T => right; rw [← h4.1]; simp
    · rcases Chain.next h4 p hp with h | h
      · exact .inl h
      · exact .inr (by simp [h])
theorem Chain.first {szf : Int → Int} {T : List Int} {s e : Int} (h : Chain szf s e T) : s = e ∨ s ∈ T := by
  cases T with
  | nil => exact .inl h
  | cons p T => right; rw [← h.1]; simp
end Go.Proofs.YtpdcjocjkbgddaaGreat.Abs
/- Copying: what always holds while a cycle runs; an object that is copied (plain). -/
namespace Go.Proofs.YtpdcjocjkbgddaaGreat.Abs
open Go.RowKit
set_option linter.unusedVariables false
set_option linter.unusedSimpArgs false
set_option maxRecDepth 20000
def szC (ws : List U64) (p : Int) : Int := if okW (gw ws p) = true then szW ws p else szW ws (toW ws p)
def sumC (ws : List U64) : List Int → Int
  | [] => 0
  | p :: T => (if okW (gw ws p) = true then szW ws p + 1 else 0) + sumC ws T
theorem szW_0 {ws : List U64} (h : ∀ x ∈ ws, inW x.v) (p : Int) : 0 ≤ szW ws p ∧ szW ws p ≤ 65535 := by
  have := hdW_b (gw_in h p)
  unfold szW lookW readH
  split
  · exact ⟨this.1, this.2.1⟩
  · exact ⟨by decide, by decide⟩
theorem sumC_0 {ws : List U64} (h : ∀ x ∈ ws, inW x.v) : ∀ T : List Int, 0 ≤ sumC ws T
  | [] => Int.le_refl _
  | p :: T => by
    have := sumC_0 h T
    have := szW_0 h p
    unfold sumC
    split <;> omega
theorem sumC_mem {ws : List U64} (h : ∀ x ∈ ws, inW x.v) : ∀ {T : List Int} {p : Int}, p ∈ T → okW (gw ws p) = true → szW ws p + 1 ≤ sumC ws T
  | q :: T, p, hp, ho => by
    unfold sumC
    have b0 := sumC_0 h T
    have b1 := szW_0 h q
    rcases List.mem_cons.1 hp with e | hp
    · rw [← e, if_pos ho]; omega
    · have := sumC_mem h hp ho
      split <;> omega
theorem look_c {ws ws' : List U64} {p q : Int} (h : gw ws' p = gw ws q) : lookW ws' p = lookW ws q := by unfold lookW; rw [h]
theorem sz_c {ws ws' : List U64} {p q : Int} (h : gw ws' p = gw ws q) : szW ws' p = szW ws q := by unfold szW; rw [look_c h]
theorem kd_c {ws ws' : List U64} {p q : Int} (h : gw ws' p = gw ws q) : kdW ws' p = kdW ws q := by unfold kdW; rw [look_c h]
theorem to_c {ws ws' : List U64} {p q : Int} (h : gw ws' p = gw ws q) : toW ws' p = toW ws q := by unfold toW; rw [h]
theorem val_c {ws ws' : List U64} {i j : Int} (h : gw ws' i = gw ws j) (h1 : gw ws' (i + 1) = gw ws (j + 1)) : valW ws' i = valW ws j := by unfold valW; rw [h, h1]
theorem sumC_c {ws ws' : List U64} : ∀ {T : List Int}, (∀ q ∈ T, gw ws' q = gw ws q) → sumC ws' T = sumC ws T
  | [], _ => rfl
  | q :: T, h => by
    have e := h q (by simp)
    unfold sumC
    rw [e, sz_c e, sumC_c fun x hx => h x (by simp [hx])]
theorem sumC_out {ws ws' : List U64} {szf : Int → Int} : ∀ {T : List Int} {s e p : Int}, Chain szf s e T → p ∈ T → (∀ q ∈ T, q ≠ p → gw ws' q = gw ws q) → okW (gw ws p) = true → okW (gw ws' p) = false → sumC ws' T = sumC ws T - (szW ws p + 1)
  | q :: T, s, e, p, ⟨h1, h2, h3, h4⟩, hp, hc, ho, hn => by
    unfold sumC
    by_cases c : q = p
    · subst c
      have : sumC ws' T = sumC ws T := sumC_c fun x hx => hc x (by simp [hx]) (by have := (Chain.mem h4 x hx).1; omega)
      rw [if_pos ho, hn, if_neg (by decide), this]
      omega
    · have hp2 : p ∈ T := by
        rcases List.mem_cons.1 hp with e | h
        · exact absurd e.symm c
        · exact h
      have := sumC_out h4 hp2 (fun x hx hne => hc x (by simp [hx]) hne) ho hn
      have e := hc q (by simp) c
      rw [this, e, sz_c e]
      omega
/-- What always holds while a cycle runs: T1 are the objects of the half in use, T2 those of the other one. -/
structure C0 (a : Ar) (T1 T2 : List Int) : Prop where
  wf : a.wf
  N : NumP a
  cy : a.cyc = true
  c1 : Chain (szW a.ws) (startA a a.to) a.top T1
  h1 : ∀ p ∈ T1, okW (gw a.ws p) = true
  c2 : Chain (szC a.ws) (startA a (1 - a.to)) a.old T2
  h2 : ∀ p ∈ T2, okW (gw a.ws p) = true ∨ (fwd (gw a.ws p)).2 = true ∧ toW a.ws p ∈ T1
  s2 : a.old - startA a (1 - a.to) - a.cop = sumC a.ws T2
  v1 : ∀ p ∈ T1, ∀ x ∈ slotsL (kdW a.ws p) (szW a.ws p), valOkB (valW a.ws (p + x)) = true ∧ (isRefB (valW a.ws (p + x)) = true → (valW a.ws (p + x)).2 ∈ T1 ∨ (valW a.ws (p + x)).2 ∈ T2)
  v2 : ∀ p ∈ T2, okW (gw a.ws p) = true → ∀ x ∈ slotsL (kdW a.ws p) (szW a.ws p), valOkB (valW a.ws (p + x)) = true ∧ (isRefB (valW a.ws (p + x)) = true → (valW a.ws (p + x)).2 ∈ T2)
theorem size_ok {a : Ar} (hw : a.wf) {p : Int} (h : okW (gw a.ws p) = true) : sizeB (kdW a.ws p) (szW a.ws p) = true ∧ 1 ≤ szW a.ws p := by
  have e : lookW a.ws p = hdW (gw a.ws p) := by unfold lookW readH; rw [h]; rfl
  unfold okW hdOk at h
  rw [Bool.and_eq_true] at h
  have k1 := h.1
  unfold kdW szW
  rw [e]
  refine ⟨k1, ?_⟩
  show 1 ≤ gw a.ws p / 16 % 65536
  unfold sizeB at k1
  repeat' split at k1
  all_goals first | omega | (simp only [decide_eq_true_eq] at k1; omega) | (simp at k1; done)
/-- The places of a running cycle, in numbers. -/
theorem C0.nums {a : Ar} {T1 T2 : List Int} (h : C0 a T1 T2) : 1 ≤ startA a a.to ∧ startA a a.to ≤ a.top ∧ 1 ≤ startA a (1 - a.to) ∧ startA a (1 - a.to) ≤ a.old ∧ a.old ≤ endA a (1 - a.to) ∧ 0 ≤ a.cop ∧ a.top + sumC a.ws T2 ≤ endA a a.to ∧ 0 ≤ sumC a.ws T2 ∧ endA a a.to ≤ a.ws.length ∧ endA a (1 - a.to) ≤ a.ws.length ∧ (endA a a.to < startA a (1 - a.to) ∨ endA a (1 - a.to) < startA a a.to) ∧ a.ws.length ≤ 8000 := by
  have hh := halves h.N
  have hf := h.N.f
  unfold freeP at hf
  rw [if_pos h.cy] at hf
  have := sumC_0 h.wf.w T2
  have hs := h.s2
  have h1 := h.N.sm.s1
  have hl := h.N.sm.l
  omega
theorem C0.in1 {a : Ar} {T1 T2 : List Int} (h : C0 a T1 T2) {p : Int} (hp : p ∈ T1) : startA a a.to ≤ p ∧ p + szW a.ws p + 1 ≤ a.top ∧ 1 ≤ szW a.ws p := by
  have := h.c1.mem p hp
  exact ⟨this.1, this.2.2, (size_ok h.wf (h.h1 p hp)).2⟩
theorem C0.in2 {a : Ar} {T1 T2 : List Int} (h : C0 a T1 T2) {p : Int} (hp : p ∈ T2) : startA a (1 - a.to) ≤ p ∧ p < a.old ∧ p + szC a.ws p + 1 ≤ a.old := by
  have := h.c2.mem p hp
  exact ⟨this.1, by omega, this.2.2⟩
/-- The arena with the object at p copied. -/
def fwdW (a : Ar) (p : Int) : Ar := { a with ws := setW (copyW a.ws a.top p (szW a.ws p + 1).toNat) p (9223372036854775808 + a.top), top := a.top + (szW a.ws p + 1), cop := a.cop + (szW a.ws p + 1) }
theorem gw_fwd {a : Ar} {T1 T2 : List Int} (h : C0 a T1 T2) {p : Int} (hp : p ∈ T2) (ho : okW (gw a.ws p) = true) {j : Int} (j0 : 0 ≤ j) :
    gw (fwdW a p).ws j = if j = p then 9223372036854775808 + a.top else if a.top ≤ j ∧ j < a.top + (szW a.ws p + 1) then gw a.ws (p + (j - a.top)) else gw a.ws j := by
  have n := h.nums
  have i2 := h.in2 hp
  have b := szW_0 h.wf.w p
  have hm := sumC_mem h.wf.w hp ho
  have ez : szC a.ws p = szW a.ws p := if_pos ho
  show gw (setW (copyW a.ws a.top p (szW a.ws p + 1).toNat) p (9223372036854775808 + a.top)) j = _
  rw [gw_set (by omega) (by rw [copyW_len]; omega) j0]
  by_cases c : j = p
  · rw [if_pos c, if_pos c]
  · rw [if_neg c, if_neg c, gw_copy (by omega) (by omega) _ (by omega) (by omega) j j0, show ((szW a.ws p + 1).toNat : Int) = szW a.ws p + 1 by omega]
theorem fwd_top {t : Int} (t0 : 0 ≤ t) (t1 : t ≤ 8000) : fwd (9223372036854775808 + t) = (t, true) := by
  unfold fwd
  rw [if_neg (by omega)]
  congr 1
  omega
theorem C0.fwd {a : Ar} {T1 T2 : List Int} (h : C0 a T1 T2) {p : Int} (hp : p ∈ T2) (ho : okW (gw a.ws p) = true) : C0 (fwdW a p) (T1 ++ [a.top]) T2 := by
  have n := h.nums
  have i2 := h.in2 hp
  have b := szW_0 h.wf.w p
  have hm := sumC_mem h.wf.w hp ho
  have ez : szC a.ws p = szW a.ws p := if_pos ho
  have G : ∀ {j : Int}, 0 ≤ j → gw (fwdW a p).ws j = if j = p then 9223372036854775808 + a.top else if a.top ≤ j ∧ j < a.top + (szW a.ws p + 1) then gw a.ws (p + (j - a.top)) else gw a.ws j := fun j0 => gw_fwd h hp ho j0
  have Gp : gw (fwdW a p).ws p = 9223372036854775808 + a.top := by rw [G (by omega), if_pos rfl]
  have Gt : ∀ x : Int, 0 ≤ x → x ≤ szW a.ws p → gw (fwdW a p).ws (a.top + x) = gw a.ws (p + x) := fun x x0 x1 => by
    rw [G (by omega), if_neg (by omega), if_pos (by omega)]
    congr 1
    omega
  have Gt0 : gw (fwdW a p).ws a.top = gw a.ws p := by have := Gt 0 (by omega) b.1; rwa [Int.add_zero, Int.add_zero] at this
  have G1 : ∀ q ∈ T1, ∀ x : Int, 0 ≤ x → x ≤ szW a.ws q → gw (fwdW a p).ws (q + x) = gw a.ws (q + x) := fun q hq x x0 x1 => by
    have := h.in1 hq
    rw [G (by omega), if_neg (by omega), if_neg (by omega)]
  have G10 : ∀ q ∈ T1, gw (fwdW a p).ws q = gw a.ws q := fun q hq => by have := G1 q hq 0 (by omega) (szW_0 h.wf.w q).1; rwa [Int.add_zero] at this
  have G2 : ∀ q ∈ T2, q ≠ p → ∀ x : Int, 0 ≤ x → x ≤ szC a.ws q → gw (fwdW a p).ws (q + x) = gw a.ws (q + x) := fun q hq hne x x0 x1 => by
    have i3 := h.in2 hq
    have ap : q < p → q + szC a.ws q + 1 ≤ p := fun hl => h.c2.apart q hq p hp hl
    rw [G (by omega), if_neg (by omega), if_neg (by omega)]
  have G20 : ∀ q ∈ T2, q ≠ p → gw (fwdW a p).ws q = gw a.ws q := fun q hq hne => by have := G2 q hq hne 0 (by omega) (h.c2.mem q hq).2.1; rwa [Int.add_zero] at this
  have fT : Abs.fwd (gw (fwdW a p).ws p) = (a.top, true) := by rw [Gp]; exact fwd_top (by omega) (by omega)
  have oT : okW (gw (fwdW a p).ws p) = false := by
    cases e : okW (gw (fwdW a p).ws p) with
    | false => rfl
    | true =>
      have := ok_fwd (w := gw (fwdW a p).ws p) (by rw [Gp]; exact ⟨by omega, by omega⟩) e
      rw [fT] at this
      cases this
  have tT : toW (fwdW a p).ws p = a.top := by unfold toW; rw [fT]
  have hl : (fwdW a p).ws.length = a.ws.length := by show (setW _ _ _).length = _; rw [setW_len, copyW_len]
  have hN := h.N
  have hf := hN.f
  unfold freeP at hf
  rw [if_pos h.cy] at hf
  refine ⟨⟨?_, by rw [hl]; exact h.wf.n, h.wf.r⟩, ⟨⟨hN.sm.s0, hN.sm.s1, hN.sm.t0, hN.sm.t1, by rw [hl]; exact hN.sm.l⟩, hN.z0, hN.z1, hN.r, ?_, ?_, ?_⟩, h.cy, ?_, ?_, ?_, ?_, ?_, ?_, ?_⟩
  · exact inW_set (inW_copy h.wf.w _ _ _) ⟨by omega, by omega⟩
  · show startA a a.to ≤ a.top + (szW a.ws p + 1); omega
  · show a.top + (szW a.ws p + 1) ≤ endA a a.to; omega
  · unfold freeP
    rw [if_pos (show (fwdW a p).cyc = true from h.cy)]
    show startA a (1 - a.to) ≤ a.old ∧ a.old ≤ endA a (1 - a.to) ∧ 0 ≤ a.cop + (szW a.ws p + 1) ∧ a.cop + (szW a.ws p + 1) ≤ a.old - startA a (1 - a.to) ∧ a.top + (szW a.ws p + 1) + a.old - startA a (1 - a.to) - (a.cop + (szW a.ws p + 1)) ≤ endA a a.to
    have := h.s2
    omega
  · refine Chain.push (h.c1.congr fun q hq => sz_c (G10 q hq)) ?_ ?_
    · rw [sz_c Gt0]; exact b.1
    · show a.top + (szW a.ws p + 1) = _
      rw [sz_c Gt0]; omega
  · intro q hq
    rcases List.mem_append.1 hq with hq | hq
    · rw [G10 q hq]; exact h.h1 q hq
    · rw [List.mem_singleton] at hq
      rw [hq, Gt0]; exact ho
  · refine h.c2.congr fun q hq => ?_
    by_cases e : q = p
    · subst e
      unfold szC
      rw [oT, if_neg (by decide), tT, sz_c Gt0, if_pos ho]
    · have e1 := G20 q hq e
      unfold szC
      rw [e1, sz_c e1, to_c e1]
      split
      · rfl
      · rename_i no
        exact sz_c (G10 _ ((h.h2 q hq).resolve_left no).2)
  · intro q hq
    by_cases e : q = p
    · subst e
      right
      rw [fT, tT]
      exact ⟨rfl, by simp⟩
    · have e1 := G20 q hq e
      rw [e1, to_c e1]
      rcases h.h2 q hq with k | k
      · exact .inl k
      · exact .inr ⟨k.1, by simp [k.2]⟩
  · show a.old - startA a (1 - a.to) - (a.cop + (szW a.ws p + 1)) = _
    rw [sumC_out h.c2 hp G20 ho oT]
    have := h.s2
    omega
  · intro q hq x hx
    rcases List.mem_append.1 hq with hq | hq
    · have e1 := G10 q hq
      rw [kd_c e1, sz_c e1] at hx
      have sb := slots_in (size_ok h.wf (h.h1 q hq)).1 hx
      have ev : valW (fwdW a p).ws (q + x) = valW a.ws (q + x) := val_c (G1 q hq x (by omega) (by omega)) (by have := G1 q hq (x + 1) (by omega) (by omega); rwa [← Int.add_assoc] at this)
      rw [ev]
      obtain ⟨k1, k2⟩ := h.v1 q hq x hx
      exact ⟨k1, fun hr => (k2 hr).imp (fun z => by simp [z]) id⟩
    · rw [List.mem_singleton] at hq
      subst hq
      rw [kd_c Gt0, sz_c Gt0] at hx
      have sb := slots_in (size_ok h.wf ho).1 hx
      have ev : valW (fwdW a p).ws (a.top + x) = valW a.ws (p + x) := val_c (Gt x (by omega) (by omega)) (by have := Gt (x + 1) (by omega) (by omega); rwa [← Int.add_assoc, ← Int.add_assoc] at this)
      rw [ev]
      obtain ⟨k1, k2⟩ := h.v2 p hp ho x hx
      exact ⟨k1, fun hr => .inr (k2 hr)⟩
  · intro q hq hoq x hx
    have e : q ≠ p := by
      rintro rfl
      rw [oT] at hoq; cases hoq
    have e1 := G20 q hq e
    rw [e1] at hoq
    rw [kd_c e1, sz_c e1] at hx
    have sb := slots_in (size_ok h.wf hoq).1 hx
    have ezq : szC a.ws q = szW a.ws q := if_pos hoq
    have ev : valW (fwdW a p).ws (q + x) = valW a.ws (q + x) := val_c (G2 q hq e x (by omega) (by omega)) (by have := G2 q hq e (x + 1) (by omega) (by omega); rwa [← Int.add_assoc] at this)
    rw [ev]
    exact h.v2 q hq hoq x hx
end Go.Proofs.YtpdcjocjkbgddaaGreat.Abs
/- Copying: values that are forwarded, slots that are put, objects that are gone over (plain). -/
namespace Go.Proofs.YtpdcjocjkbgddaaGreat.Abs
open Go.RowKit
set_option linter.unusedVariables false
set_option linter.unusedSimpArgs false
set_option maxRecDepth 20000
/-- A value is forwarded. -/
def fwdA (a : Ar) (v : Vl) : Ar × Vl :=
  if isRefB v = true ∧ otherA a v.2 = true then (if (fwd (gw a.ws v.2)).2 = true then (a, (v.1, toW a.ws v.2)) else (fwdW a v.2, (v.1, a.top))) else (a, v)
/-- The fields that copying leaves. -/
structure SameF (a a' : Ar) : Prop where
  semi : a'.semi = a.semi
  to : a'.to = a.to
  cyc : a'.cyc = a.cyc
  scan : a'.scan = a.scan
  old : a'.old = a.old
  ser : a'.ser = a.ser
  rs : a'.rs = a.rs
  len : a'.ws.length = a.ws.length
theorem SameF.refl (a : Ar) : SameF a a := ⟨rfl, rfl, rfl, rfl, rfl, rfl, rfl, rfl⟩
theorem SameF.trans {a b c : Ar} (h : SameF a b) (g : SameF b c) : SameF a c := ⟨g.semi.trans h.semi, g.to.trans h.to, g.cyc.trans h.cyc, g.scan.trans h.scan, g.old.trans h.old, g.ser.trans h.ser, g.rs.trans h.rs, g.len.trans h.len⟩
theorem SameF.start {a a' : Ar} (h : SameF a a') (x : Int) : startA a' x = startA a x := by unfold startA; rw [h.semi]
theorem SameF.end_ {a a' : Ar} (h : SameF a a') (x : Int) : endA a' x = endA a x := by unfold endA; rw [h.semi]
theorem C0.other1 {a : Ar} {T1 T2 : List Int} (h : C0 a T1 T2) {p : Int} (hp : p ∈ T1) : otherA a p = false := by
  have n := h.nums
  have i := h.in1 hp
  unfold otherA
  rw [decide_eq_false_iff_not]
  omega
theorem C0.other2 {a : Ar} {T1 T2 : List Int} (h : C0 a T1 T2) {p : Int} (hp : p ∈ T2) : otherA a p = true := by
  have n := h.nums
  have i := h.in2 hp
  have := (h.c2.mem p hp).2.1
  have hs := (h.c2.mem p hp).2.2
  unfold otherA
  rw [decide_eq_true_eq]
  omega
theorem ref_t {t n n' : Int} : isRefB (t, n') = isRefB (t, n) := rfl
theorem ref_tags {v : Vl} (h : isRefB v = true) : v.1 = 3 ∨ v.1 = 4 ∨ v.1 = 5 ∨ v.1 = 6 ∨ v.1 = 8 ∨ v.1 = 9 := by
  unfold isRefB kindT at h
  by_cases c3 : v.1 = 3
  · omega
  by_cases c4 : v.1 = 4
  · omega
  by_cases c5 : v.1 = 5
  · omega
  by_cases c6 : v.1 = 6
  · omega
  by_cases c8 : v.1 = 8
  · omega
  by_cases c9 : v.1 = 9
  · omega
  · simp [c3, c4, c5, c6, c8, c9] at h
theorem valOk_ref {t n : Int} (hr : isRefB (t, n) = true) (h : 0 < n) : valOkB (t, n) = true := by
  have ht : t = 3 ∨ t = 4 ∨ t = 5 ∨ t = 6 ∨ t = 8 ∨ t = 9 := ref_tags hr
  unfold valOkB
  have e : (isRefB (t, n) && decide ((t, n).2 > 0)) = true := by rw [hr]; simpa using h
  rw [e, if_neg (by show ¬ t = 0; omega), if_neg (by show ¬ t = 1; omega), if_neg (by show ¬ t = 2; omega), if_neg (by show ¬ t = 7; omega)]
/-- What a forwarded value leaves. -/
structure FwdOk (a : Ar) (T1 T2 : List Int) (v : Vl) (a' : Ar) (v' : Vl) (T1' : List Int) : Prop where
  c : C0 a' T1' T2
  sub : ∀ p ∈ T1, p ∈ T1'
  new : ∀ p ∈ T1', p ∈ T1 ∨ a.top ≤ p
  f : SameF a a'
  top : a.top ≤ a'.top
  tag : v'.1 = v.1
  ok : valOkB v' = true
  r : isRefB v' = true → v'.2 ∈ T1'
  nr : isRefB v = false → v' = v
  keep : ∀ q ∈ T1, ∀ x : Int, 0 ≤ x → x ≤ szW a.ws q → gw a'.ws (q + x) = gw a.ws (q + x)
theorem fwd_ok {a : Ar} {T1 T2 : List Int} (h : C0 a T1 T2) {v : Vl} (hv : valOkB v = true) (hr : isRefB v = true → v.2 ∈ T1 ∨ v.2 ∈ T2) : ∃ T1', FwdOk a T1 T2 v (fwdA a v).1 (fwdA a v).2 T1' := by
  have n := h.nums
  unfold fwdA
  by_cases c : isRefB v = true ∧ otherA a v.2 = true
  case neg =>
    rw [if_neg c]
    refine ⟨T1, h, fun p hp => hp, fun p hp => .inl hp, SameF.refl a, Int.le_refl _, rfl, hv, fun hr' => ?_, fun _ => rfl, fun q _ x _ _ => rfl⟩
    rcases hr hr' with k | k
    · exact k
    · exact absurd ⟨hr', h.other2 k⟩ c
  rw [if_pos c]
  have h2 : v.2 ∈ T2 := by
    rcases hr c.1 with k | k
    · have := h.other1 k
      rw [c.2] at this; cases this
    · exact k
  by_cases f : (fwd (gw a.ws v.2)).2 = true
  · rw [if_pos f]
    have nok : ¬ okW (gw a.ws v.2) = true := fun e => by rw [ok_fwd (gw_in h.wf.w v.2) e] at f; cases f
    have ht := ((h.h2 _ h2).resolve_left nok).2
    have i := h.in1 ht
    exact ⟨T1, h, fun p hp => hp, fun p hp => .inl hp, SameF.refl a, Int.le_refl _, rfl, valOk_ref (ref_t.trans c.1) (by omega), fun _ => ht, fun e => (by rw [c.1] at e; cases e), fun q _ x _ _ => rfl⟩
  · rw [if_neg f]
    have ok : okW (gw a.ws v.2) = true := by
      rcases h.h2 _ h2 with k | k
      · exact k
      · exact absurd k.1 f
    have b := szW_0 h.wf.w v.2
    have i2 := h.in2 h2
    refine ⟨T1 ++ [a.top], h.fwd h2 ok, fun p hp => by simp [hp], fun p hp => ?_, ⟨rfl, rfl, rfl, rfl, rfl, rfl, rfl, ?_⟩, ?_, rfl, valOk_ref (ref_t.trans c.1) (by show 0 < a.top; omega), fun _ => by simp, fun e => (by rw [c.1] at e; cases e), fun q hq x x0 x1 => ?_⟩
    · rcases List.mem_append.1 hp with hp | hp
      · exact .inl hp
      · rw [List.mem_singleton] at hp; right; omega
    · show (setW _ _ _).length = _; rw [setW_len, copyW_len]
    · show a.top ≤ a.top + (szW a.ws v.2 + 1); omega
    · have := h.in1 hq
      rw [gw_fwd h h2 ok (by omega), if_neg (by omega), if_neg (by omega)]
def uW (x : Int) : Int := IntKind.u64.wrap x
/-- A value is put into two words. -/
def putV (a : Ar) (i : Int) (v : Vl) : Ar := { a with ws := setW (setW a.ws i (uW v.1)) (i + 1) (uW v.2) }
theorem uW_in (x : Int) : inW (uW x) := by
  unfold uW IntKind.wrap inW
  simp [IntKind.bits, IntKind.signed] <;> omega
theorem uW_id {x : Int} (h0 : 0 ≤ x) (h1 : x < 18446744073709551616) : uW x = x := u64w h0 h1
theorem wrap_uW (x : Int) : IntKind.i64.wrap (uW x) = IntKind.i64.wrap x := by
  unfold uW IntKind.wrap
  simp [IntKind.bits, IntKind.signed] <;> omega
theorem gw_put {a : Ar} {i : Int} {v : Vl} (i0 : 0 ≤ i) (i1 : i + 1 < a.ws.length) {j : Int} (j0 : 0 ≤ j) : gw (putV a i v).ws j = if j = i then uW v.1 else if j = i + 1 then uW v.2 else gw a.ws j := by
  show gw (setW (setW a.ws i (uW v.1)) (i + 1) (uW v.2)) j = _
  rw [gw_set (by omega) (by rw [setW_len]; omega) j0]
  by_cases c : j = i + 1
  · rw [if_pos c, if_neg (by omega), if_pos c]
  · rw [if_neg c, gw_set i0 (by omega) j0]
    by_cases c2 : j = i
    · rw [if_pos c2, if_pos c2]
    · rw [if_neg c2, if_neg c2, if_neg c]
theorem put_len (a : Ar) (i : Int) (v : Vl) : (putV a i v).ws.length = a.ws.length := by
  show (setW (setW _ _ _) _ _).length = _
  rw [setW_len, setW_len]
theorem putV_same (a : Ar) (i : Int) (v : Vl) : SameF a (putV a i v) := ⟨rfl, rfl, rfl, rfl, rfl, rfl, rfl, put_len a i v⟩
/-- What a value reads as when it was put. -/
def norm (v : Vl) : Vl := (v.1, IntKind.i64.wrap v.2)
theorem norm_ok {v : Vl} {lim : Int} (h : valOkB v = true) (hr : isRefB v = true → v.2 < 9223372036854775808) : valOkB (norm v) = true ∧ isRefB (norm v) = isRefB v ∧ (isRefB v = true → (norm v).2 = v.2) := by
  obtain ⟨t, n⟩ := v
  refine ⟨?_, rfl, fun e => ?_⟩
  · by_cases c : isRefB (t, n) = true
    · have p := ref_pos h c
      have p2 := hr c
      have p : 0 < n := p
      have p2 : n < 9223372036854775808 := p2
      unfold norm
      rw [show IntKind.i64.wrap (t, n).2 = n from w64 (by omega) (by omega)]
      exact h
    · unfold norm
      unfold valOkB at h ⊢
      show (if t = 0 then decide (IntKind.i64.wrap n = 0) else _) = true
      by_cases t0 : t = 0
      · rw [if_pos t0] at h ⊢
        have h : n = 0 := by simpa using h
        rw [h]; rfl
      rw [if_neg t0] at h ⊢
      by_cases t1 : t = 1
      · rw [if_pos t1] at h ⊢
        have h : 0 ≤ n ∧ n ≤ 1 := by simpa using h
        rw [show IntKind.i64.wrap (t, n).2 = n from w64 (by omega) (by omega)]
        simpa using h
      rw [if_neg t1] at h ⊢
      by_cases t2 : t = 2
      · rw [if_pos t2]
      rw [if_neg t2] at h ⊢
      by_cases t7 : t = 7
      · rw [if_pos t7] at h ⊢
        have h : 1 ≤ n ∧ n ≤ 20 := by simpa using h
        rw [show IntKind.i64.wrap (t, n).2 = n from w64 (by omega) (by omega)]
        simpa using h
      · rw [if_neg t7] at h
        rw [Bool.and_eq_true] at h
        exact absurd h.1 c
  · have p := ref_pos h e
    have p2 := hr e
    exact w64 (by omega) (by omega)
end Go.Proofs.YtpdcjocjkbgddaaGreat.Abs
/- Copying: slots that are put; an object that is gone over (plain). -/
namespace Go.Proofs.YtpdcjocjkbgddaaGreat.Abs
open Go.RowKit
set_option linter.unusedVariables false
set_option linter.unusedSimpArgs false
set_option maxRecDepth 20000
theorem slots_far {k s x y : Int} (hx : x ∈ slotsL k s) (hy : y ∈ slotsL k s) (h : x ≠ y) : x + 2 ≤ y ∨ y + 2 ≤ x := by
  unfold slotsL everyK at hx hy
  obtain ⟨i, _, rfl⟩ := List.mem_map.1 hx
  obtain ⟨j, _, rfl⟩ := List.mem_map.1 hy
  omega
theorem slots_nodup (k s : Int) : (slotsL k s).Nodup := by
  unfold slotsL everyK
  rw [List.nodup_iff_pairwise_ne, List.pairwise_map]
  exact List.nodup_range.imp fun h e => h (by omega)
structure PutOk (a : Ar) (p x : Int) (v : Vl) (a' : Ar) (T1 T2 : List Int) : Prop where
  c : C0 a' T1 T2
  f : SameF a a'
  top : a'.top = a.top
  head : ∀ q ∈ T1, gw a'.ws q = gw a.ws q
  val : valW a'.ws (p + x) = norm v
  other : ∀ y ∈ slotsL (kdW a.ws p) (szW a.ws p), y ≠ x → valW a'.ws (p + y) = valW a.ws (p + y)
  keep : ∀ q ∈ T1, q ≠ p → ∀ y : Int, 0 ≤ y → y ≤ szW a.ws q → gw a'.ws (q + y) = gw a.ws (q + y)
theorem put_ok {a : Ar} {T1 T2 : List Int} (h : C0 a T1 T2) {p x : Int} {v : Vl} (hp : p ∈ T1) (hx : x ∈ slotsL (kdW a.ws p) (szW a.ws p)) (hv : valOkB v = true) (hr : isRefB v = true → v.2 ∈ T1) : PutOk a p x v (putV a (p + x) v) T1 T2 := by
  have n := h.nums
  have ip := h.in1 hp
  have sx := slots_in (size_ok h.wf (h.h1 p hp)).1 hx
  have G : ∀ {j : Int}, 0 ≤ j → gw (putV a (p + x) v).ws j = if j = p + x then uW v.1 else if j = p + x + 1 then uW v.2 else gw a.ws j := fun j0 => gw_put (by omega) (by omega) j0
  have N : ∀ {j : Int}, 0 ≤ j → j ≠ p + x → j ≠ p + x + 1 → gw (putV a (p + x) v).ws j = gw a.ws j := fun j0 h1 h2 => by rw [G j0, if_neg h1, if_neg h2]
  have H1 : ∀ q ∈ T1, q ≠ p → ∀ y : Int, 0 ≤ y → y ≤ szW a.ws q → gw (putV a (p + x) v).ws (q + y) = gw a.ws (q + y) := fun q hq hne y y0 y1 => by
    have iq := h.in1 hq
    have a1 : q < p → q + szW a.ws q + 1 ≤ p := fun hl => h.c1.apart q hq p hp hl
    have a2 : p < q → p + szW a.ws p + 1 ≤ q := fun hl => h.c1.apart p hp q hq hl
    exact N (by omega) (by omega) (by omega)
  have H10 : ∀ q ∈ T1, gw (putV a (p + x) v).ws q = gw a.ws q := fun q hq => by
    by_cases e : q = p
    · subst e; exact N (by omega) (by omega) (by omega)
    · have := H1 q hq e 0 (by omega) (szW_0 h.wf.w q).1
      rwa [Int.add_zero] at this
  have H2 : ∀ q ∈ T2, ∀ y : Int, 0 ≤ y → y ≤ szC a.ws q → gw (putV a (p + x) v).ws (q + y) = gw a.ws (q + y) := fun q hq y y0 y1 => by
    have iq := h.in2 hq
    exact N (by omega) (by omega) (by omega)
  have H20 : ∀ q ∈ T2, gw (putV a (p + x) v).ws q = gw a.ws q := fun q hq => by
    have := H2 q hq 0 (by omega) (h.c2.mem q hq).2.1
    rwa [Int.add_zero] at this
  have tv := valOk_tag hv
  have hval : valW (putV a (p + x) v).ws (p + x) = norm v := by
    unfold valW norm
    rw [G (by omega), if_pos rfl, G (by omega), if_neg (by omega), if_pos rfl, wrap_uW, wrap_uW, w64 (x := v.1) (by omega) (by omega)]
  have hoth : ∀ y ∈ slotsL (kdW a.ws p) (szW a.ws p), y ≠ x → valW (putV a (p + x) v).ws (p + y) = valW a.ws (p + y) := fun y hy hne => by
    have sy := slots_in (size_ok h.wf (h.h1 p hp)).1 hy
    have far := slots_far hy hx hne
    exact val_c (N (by omega) (by omega) (by omega)) (N (by omega) (by omega) (by omega))
  have nv := norm_ok (lim := 0) hv fun e => by have := h.in1 (hr e); omega
  have hl := put_len a (p + x) v
  have hN := h.N
  have hf := hN.f
  unfold freeP at hf
  rw [if_pos h.cy] at hf
  refine ⟨⟨⟨inW_set (inW_set h.wf.w (uW_in _)) (uW_in _), by rw [hl]; exact h.wf.n, h.wf.r⟩, ⟨⟨hN.sm.s0, hN.sm.s1, hN.sm.t0, hN.sm.t1, by rw [hl]; exact hN.sm.l⟩, hN.z0, hN.z1, hN.r, hN.p0, hN.p1, ?_⟩, h.cy, ?_, ?_, ?_, ?_, ?_, ?_, ?_⟩, putV_same _ _ _, rfl, H10, hval, hoth, H1⟩
  · unfold freeP
    rw [if_pos (show (putV a (p + x) v).cyc = true from h.cy)]
    exact hf
  · exact h.c1.congr fun q hq => sz_c (H10 q hq)
  · intro q hq; rw [H10 q hq]; exact h.h1 q hq
  · refine h.c2.congr fun q hq => ?_
    have e1 := H20 q hq
    unfold szC
    rw [e1, sz_c e1, to_c e1]
    split
    · rfl
    · rename_i no
      exact sz_c (H10 _ ((h.h2 q hq).resolve_left no).2)
  · intro q hq
    have e1 := H20 q hq
    rw [e1, to_c e1]
    exact h.h2 q hq
  · show a.old - startA a (1 - a.to) - a.cop = _
    rw [sumC_c H20]
    exact h.s2
  · intro q hq y hy
    have e1 := H10 q hq
    rw [kd_c e1, sz_c e1] at hy
    by_cases e : q = p
    · subst e
      by_cases ey : y = x
      · subst ey
        rw [hval]
        refine ⟨nv.1, fun hr' => .inl ?_⟩
        rw [nv.2.1] at hr'
        rw [nv.2.2 hr']
        exact hr hr'
      · rw [hoth y hy ey]
        exact h.v1 q hq y hy
    · have sy := slots_in (size_ok h.wf (h.h1 q hq)).1 hy
      have ev : valW (putV a (p + x) v).ws (q + y) = valW a.ws (q + y) := val_c (H1 q hq e y (by omega) (by omega)) (by have := H1 q hq e (y + 1) (by omega) (by omega); rwa [← Int.add_assoc] at this)
      rw [ev]
      exact h.v1 q hq y hy
  · intro q hq hoq y hy
    have e1 := H20 q hq
    rw [e1] at hoq
    rw [kd_c e1, sz_c e1] at hy
    have sy := slots_in (size_ok h.wf hoq).1 hy
    have ez : szC a.ws q = szW a.ws q := if_pos hoq
    have ev : valW (putV a (p + x) v).ws (q + y) = valW a.ws (q + y) := val_c (H2 q hq y (by omega) (by omega)) (by have := H2 q hq (y + 1) (by omega) (by omega); rwa [← Int.add_assoc] at this)
    rw [ev]
    exact h.v2 q hq hoq y hy
/-- The slots of the object at p are gone over. -/
def scS (p : Int) : List Int → Ar → Ar
  | [], a => a
  | x :: xs, a => scS p xs (putV (fwdA a (valW a.ws (p + x))).1 (p + x) (fwdA a (valW a.ws (p + x))).2)
structure ScanOk (a : Ar) (T1 T2 : List Int) (p : Int) (xs : List Int) (a' : Ar) (T1' : List Int) : Prop where
  c : C0 a' T1' T2
  sub : ∀ q ∈ T1, q ∈ T1'
  new : ∀ q ∈ T1', q ∈ T1 ∨ a.top ≤ q
  f : SameF a a'
  top : a.top ≤ a'.top
  head : ∀ q ∈ T1, gw a'.ws q = gw a.ws q
  keep : ∀ q ∈ T1, q ≠ p → ∀ y : Int, 0 ≤ y → y ≤ szW a.ws q → gw a'.ws (q + y) = gw a.ws (q + y)
  done : ∀ x ∈ xs, isRefB (valW a'.ws (p + x)) = true → (valW a'.ws (p + x)).2 ∈ T1'
  other : ∀ y ∈ slotsL (kdW a.ws p) (szW a.ws p), y ∉ xs → valW a'.ws (p + y) = valW a.ws (p + y)
theorem scan_ok {p : Int} {T2 : List Int} : ∀ (xs : List Int) (a : Ar) (T1 : List Int), C0 a T1 T2 → p ∈ T1 → xs.Nodup → (∀ x ∈ xs, x ∈ slotsL (kdW a.ws p) (szW a.ws p)) → ∃ T1', ScanOk a T1 T2 p xs (scS p xs a) T1'
  | [], a, T1, h, hp, _, _ => ⟨T1, h, fun q hq => hq, fun q hq => .inl hq, SameF.refl a, Int.le_refl _, fun q _ => rfl, fun q _ _ y _ _ => rfl, fun x hx => (by cases hx), fun y _ _ => rfl⟩
  | x :: xs, a, T1, h, hp, hnd, hxs => by
    obtain ⟨hnx, hnd⟩ := List.nodup_cons.1 hnd
    have hx := hxs x (by simp)
    obtain ⟨v1, v2⟩ := h.v1 p hp x hx
    obtain ⟨Ta, F⟩ := fwd_ok h v1 v2
    unfold scS
    generalize hf : fwdA a (valW a.ws (p + x)) = fr at F ⊢
    obtain ⟨a1, w⟩ := fr
    have F : FwdOk a T1 T2 (valW a.ws (p + x)) a1 w Ta := F
    have K0 : ∀ q ∈ T1, gw a1.ws q = gw a.ws q := fun q hq => by have := F.keep q hq 0 (by omega) (szW_0 h.wf.w q).1; rwa [Int.add_zero] at this
    have e1 := K0 p hp
    have hx1 : x ∈ slotsL (kdW a1.ws p) (szW a1.ws p) := by rw [kd_c e1, sz_c e1]; exact hx
    have P := put_ok F.c (F.sub p hp) hx1 F.ok F.r
    generalize hb : putV a1 (p + x) w = a2 at P ⊢
    have e2 := P.head p (F.sub p hp)
    have hxs2 : ∀ y ∈ xs, y ∈ slotsL (kdW a2.ws p) (szW a2.ws p) := fun y hy => by rw [kd_c e2, sz_c e2, kd_c e1, sz_c e1]; exact hxs y (by simp [hy])
    obtain ⟨T', S⟩ := scan_ok xs a2 Ta P.c (F.sub p hp) hnd hxs2
    have nw := norm_ok (lim := 0) F.ok fun e => by have := F.c.in1 (F.r e); have := F.c.nums; omega
    refine ⟨T', S.c, fun q hq => S.sub q (F.sub q hq), fun q hq => ?_, F.f.trans (P.f.trans S.f), ?_, fun q hq => ?_, fun q hq hne y y0 y1 => ?_, fun y hy => ?_, fun y hy hny => ?_⟩
    · rcases S.new q hq with k | k
      · exact F.new q k
      · right; have := F.top; have := P.top; omega
    · have := F.top; have := P.top; have := S.top; omega
    · rw [S.head q (F.sub q hq), P.head q (F.sub q hq), K0 q hq]
    · have z1 := sz_c (K0 q hq)
      have z2 := sz_c (P.head q (F.sub q hq))
      rw [S.keep q (F.sub q hq) hne y y0 (by omega), P.keep q (F.sub q hq) hne y y0 (by omega), F.keep q hq y y0 y1]
    · rcases List.mem_cons.1 hy with e | hy
      · subst e
        have : valW (scS p xs a2).ws (p + y) = valW a2.ws (p + y) := S.other y (by rw [kd_c e2, sz_c e2, kd_c e1, sz_c e1]; exact hx) hnx
        rw [this, P.val]
        intro hr
        rw [nw.2.1] at hr
        rw [nw.2.2 hr]
        exact S.sub _ (F.r hr)
      · exact S.done y hy
    · have hny1 : y ≠ x := fun e => hny (by simp [e])
      have hny2 : y ∉ xs := fun e => hny (by simp [e])
      have sy := slots_in (size_ok h.wf (h.h1 p hp)).1 hy
      rw [S.other y (by rw [kd_c e2, sz_c e2, kd_c e1, sz_c e1]; exact hy) hny2, P.other y (by rw [kd_c e1, sz_c e1]; exact hy) hny1]
      exact val_c (F.keep p hp y (by omega) (by omega)) (by have := F.keep p hp (y + 1) (by omega) (by omega); rwa [← Int.add_assoc] at this)
end Go.Proofs.YtpdcjocjkbgddaaGreat.Abs
/- Copying: steps, flips, collections (plain). -/
namespace Go.Proofs.YtpdcjocjkbgddaaGreat.Abs
open Go.RowKit
set_option linter.unusedVariables false
set_option linter.unusedSimpArgs false
set_option maxRecDepth 20000
def overA (a : Ar) : Ar := if a.cyc = true ∧ a.scan = a.top then { a with cyc := false, scan := 0, old := 0, cop := 0 } else a
def scanA (a : Ar) : Ar := { scS a.scan (slotsL (kdW a.ws a.scan) (szW a.ws a.scan)) a with scan := a.scan + szW a.ws a.scan + 1 }
def stepsA : Nat → Ar → Ar
  | 0, a => a
  | n + 1, a => if a.cyc = true then stepsA n (overA (scanA a)) else a
/-- A running cycle: what was gone over leads to the half in use. -/
structure C1 (a : Ar) (T1 T2 : List Int) : Prop where
  c : C0 a T1 T2
  sc : a.scan = a.top ∨ a.scan ∈ T1
  w1 : ∀ q ∈ T1, q < a.scan → ∀ x ∈ slotsL (kdW a.ws q) (szW a.ws q), isRefB (valW a.ws (q + x)) = true → (valW a.ws (q + x)).2 ∈ T1
  r : ∀ v ∈ a.rs, valOkB v = true ∧ (isRefB v = true → v.2 ∈ T1)
/-- No cycle runs. -/
structure I0 (a : Ar) (T1 : List Int) : Prop where
  wf : a.wf
  N : NumP a
  cy : a.cyc = false
  c1 : Chain (szW a.ws) (startA a a.to) a.top T1
  h1 : ∀ p ∈ T1, okW (gw a.ws p) = true
  v : ∀ p ∈ T1, ∀ x ∈ slotsL (kdW a.ws p) (szW a.ws p), valOkB (valW a.ws (p + x)) = true ∧ (isRefB (valW a.ws (p + x)) = true → (valW a.ws (p + x)).2 ∈ T1)
  r : ∀ v ∈ a.rs, valOkB v = true ∧ (isRefB v = true → v.2 ∈ T1)
/-- A right arena between two steps. -/
def Gd (a : Ar) : Prop := (∃ T1, I0 a T1) ∨ ∃ T1 T2, C1 a T1 T2 ∧ a.scan ≠ a.top
/-- What all of this leaves. -/
structure Sz (a a' : Ar) : Prop where
  semi : a'.semi = a.semi
  ser : a'.ser = a.ser
  len : a'.ws.length = a.ws.length
  rl : a'.rs.length = a.rs.length
theorem Sz.refl (a : Ar) : Sz a a := ⟨rfl, rfl, rfl, rfl⟩
theorem Sz.trans {a b c : Ar} (h : Sz a b) (g : Sz b c) : Sz a c := ⟨g.semi.trans h.semi, g.ser.trans h.ser, g.len.trans h.len, g.rl.trans h.rl⟩
theorem SameF.sz {a b : Ar} (h : SameF a b) : Sz a b := ⟨h.semi, h.ser, h.len, by rw [h.rs]⟩
theorem C0.put_scan {a : Ar} {T1 T2 : List Int} (h : C0 a T1 T2) (z : Int) : C0 { a with scan := z } T1 T2 := by
  have hN := h.N
  have hf := hN.f
  unfold freeP at hf
  rw [if_pos h.cy] at hf
  refine ⟨⟨h.wf.w, h.wf.n, h.wf.r⟩, ⟨⟨hN.sm.s0, hN.sm.s1, hN.sm.t0, hN.sm.t1, hN.sm.l⟩, hN.z0, hN.z1, hN.r, hN.p0, hN.p1, ?_⟩, h.cy, h.c1, h.h1, h.c2, h.h2, h.s2, h.v1, h.v2⟩
  unfold freeP
  rw [if_pos (show ({ a with scan := z } : Ar).cyc = true from h.cy)]
  exact hf
theorem C0.put_rs {a : Ar} {T1 T2 : List Int} (h : C0 a T1 T2) {rs : List Vl} (hl : rs.length = a.rs.length) : C0 { a with rs := rs } T1 T2 := by
  have hN := h.N
  have hf := hN.f
  unfold freeP at hf
  rw [if_pos h.cy] at hf
  refine ⟨⟨h.wf.w, h.wf.n, by show rs.length ≤ _; rw [hl]; exact h.wf.r⟩, ⟨⟨hN.sm.s0, hN.sm.s1, hN.sm.t0, hN.sm.t1, hN.sm.l⟩, hN.z0, hN.z1, by show rs.length ≤ _; rw [hl]; exact hN.r, hN.p0, hN.p1, ?_⟩, h.cy, h.c1, h.h1, h.c2, h.h2, h.s2, h.v1, h.v2⟩
  unfold freeP
  rw [if_pos (show ({ a with rs := rs } : Ar).cyc = true from h.cy)]
  exact hf
theorem C1.over {a : Ar} {T1 T2 : List Int} (h : C1 a T1 T2) : Gd (overA a) ∧ Sz a (overA a) ∧ (overA a).to = a.to ∧ ((overA a).cyc = true → overA a = a) := by
  unfold overA
  by_cases c : a.cyc = true ∧ a.scan = a.top
  · rw [if_pos c]
    have hN := h.c.N
    refine ⟨.inl ⟨T1, ⟨h.c.wf.w, h.c.wf.n, h.c.wf.r⟩, ⟨⟨hN.sm.s0, hN.sm.s1, hN.sm.t0, hN.sm.t1, hN.sm.l⟩, hN.z0, hN.z1, hN.r, hN.p0, hN.p1, ?_⟩, rfl, h.c.c1, h.c.h1, fun p hp x hx => ?_, h.r⟩, ⟨rfl, rfl, rfl, rfl⟩, rfl, fun e => by cases e⟩
    · unfold freeP
      rw [if_neg (fun e => by cases e)]
      exact ⟨rfl, rfl, rfl⟩
    · have := h.c.in1 hp
      have := (szW_0 h.c.wf.w p).1
      exact ⟨(h.c.v1 p hp x hx).1, h.w1 p hp (by omega) x hx⟩
  · rw [if_neg c]
    exact ⟨.inr ⟨T1, T2, h, fun e => c ⟨h.c.cy, e⟩⟩, Sz.refl a, rfl, fun _ => rfl⟩
theorem C1.scan {a : Ar} {T1 T2 : List Int} (h : C1 a T1 T2) (hne : a.scan ≠ a.top) : ∃ T1', C1 (scanA a) T1' T2 ∧ a.scan + 2 ≤ (scanA a).scan ∧ Sz a (scanA a) ∧ (scanA a).to = a.to := by
  have hp : a.scan ∈ T1 := h.sc.resolve_left hne
  obtain ⟨T1', S⟩ := scan_ok (p := a.scan) (T2 := T2) (slotsL (kdW a.ws a.scan) (szW a.ws a.scan)) a T1 h.c hp (slots_nodup _ _) fun x hx => hx
  unfold scanA
  generalize hb : scS a.scan (slotsL (kdW a.ws a.scan) (szW a.ws a.scan)) a = b at S ⊢
  have ip := h.c.in1 hp
  have e0 := S.head a.scan hp
  have es := sz_c e0
  refine ⟨T1', ⟨S.c.put_scan _, ?_, fun q hq hlt x hx => ?_, fun v hv => ?_⟩, by show a.scan + 2 ≤ a.scan + szW a.ws a.scan + 1; omega, ⟨S.f.semi, S.f.ser, S.f.len, by show b.rs.length = _; rw [S.f.rs]⟩, S.f.to⟩
  · have := S.c.c1.next a.scan (S.sub _ hp)
    rw [es] at this
    exact this
  · have hlt : q < a.scan + szW a.ws a.scan + 1 := hlt
    have hx : x ∈ slotsL (kdW b.ws q) (szW b.ws q) := hx
    have hq1 : q ∈ T1 := by
      rcases S.new q hq with k | k
      · exact k
      · omega
    have eq := S.head q hq1
    rw [kd_c eq, sz_c eq] at hx
    by_cases e : q = a.scan
    · subst e
      exact S.done x hx
    · have hlt2 : q < a.scan := by
        rcases Int.lt_or_gt_of_ne e with k | k
        · exact k
        · have := h.c.c1.apart a.scan hp q hq1 k
          omega
      have sx := slots_in (size_ok h.c.wf (h.c.h1 q hq1)).1 hx
      have ev : valW b.ws (q + x) = valW a.ws (q + x) := val_c (S.keep q hq1 e x (by omega) (by omega)) (by have := S.keep q hq1 e (x + 1) (by omega) (by omega); rwa [← Int.add_assoc] at this)
      show isRefB (valW b.ws (q + x)) = true → (valW b.ws (q + x)).2 ∈ T1'
      rw [ev]
      exact fun hr => S.sub _ (h.w1 q hq1 hlt2 x hx hr)
  · have hv : v ∈ b.rs := hv
    rw [S.f.rs] at hv
    exact ⟨(h.r v hv).1, fun hr => S.sub _ ((h.r v hv).2 hr)⟩
theorem steps_idle : ∀ (n : Nat) {a : Ar}, a.cyc = false → stepsA n a = a
  | 0, _, _ => rfl
  | n + 1, a, h => by unfold stepsA; rw [h]; rfl
theorem steps_more : ∀ (n k : Nat) {a : Ar}, (stepsA n a).cyc = false → stepsA (n + k) a = stepsA n a
  | 0, k, a, h => by rw [Nat.zero_add]; exact steps_idle k h
  | n + 1, k, a, h => by
    rw [Nat.add_right_comm]
    unfold stepsA at h ⊢
    by_cases c : a.cyc = true
    · rw [if_pos c] at h ⊢
      rw [if_pos c]
      exact steps_more n k h
    · rw [if_neg c, if_neg c]
theorem steps_gd : ∀ (n : Nat) (a : Ar), Gd a → Gd (stepsA n a) ∧ Sz a (stepsA n a) ∧ (stepsA n a).to = a.to ∧ (endA a a.to - a.scan ≤ 2 * n → (stepsA n a).cyc = false)
  | 0, a, h => by
    refine ⟨h, Sz.refl a, rfl, fun hn => ?_⟩
    rcases h with ⟨T1, h⟩ | ⟨T1, T2, h, hne⟩
    · exact h.cy
    · exfalso
      have := h.c.in1 (h.sc.resolve_left hne)
      have := h.c.nums
      omega
  | n + 1, a, h => by
    unfold stepsA
    rcases h with ⟨T1, h⟩ | ⟨T1, T2, h, hne⟩
    · have hc := h.cy
      rw [hc, if_neg (by decide)]
      exact ⟨.inl ⟨T1, h⟩, Sz.refl a, rfl, fun _ => hc⟩
    · rw [if_pos h.c.cy]
      obtain ⟨T1', k1, k2, k3, k4⟩ := h.scan hne
      obtain ⟨o1, o2, o3, o4⟩ := k1.over
      obtain ⟨i1, i2, i3, i4⟩ := steps_gd n _ o1
      refine ⟨i1, k3.trans (o2.trans i2), i3.trans (o3.trans k4), fun hn => ?_⟩
      cases hc : (overA (scanA a)).cyc with
      | false => rw [steps_idle n hc]; exact hc
      | true =>
        refine i4 ?_
        have e := o4 hc
        rw [e] at o2 o3 ⊢
        have e2 : endA (scanA a) (scanA a).to = endA a a.to := by unfold endA; rw [k3.semi, k4]
        rw [e2]
        omega
def finA (a : Ar) : Ar := stepsA 8000 (overA a)
theorem Gd.over {a : Ar} (h : Gd a) : overA a = a := by
  unfold overA
  rcases h with ⟨T1, h⟩ | ⟨T1, T2, h, hne⟩
  · rw [if_neg (fun c => by rw [h.cy] at c; cases c.1)]
  · rw [if_neg (fun c => hne c.2)]
theorem Gd.semi {a : Ar} (h : Gd a) : 256 ≤ a.semi ∧ a.semi ≤ 4000 ∧ 0 ≤ a.to ∧ a.to ≤ 1 ∧ (a.ws.length : Int) = 2 * a.semi := by
  rcases h with ⟨T1, h⟩ | ⟨T1, T2, h, hne⟩
  · have s := h.N.sm; exact ⟨s.s0, s.s1, s.t0, s.t1, s.l⟩
  · have s := h.c.N.sm; exact ⟨s.s0, s.s1, s.t0, s.t1, s.l⟩
theorem Gd.room {a : Ar} (h : Gd a) : endA a a.to - a.scan ≤ 2 * a.semi := by
  obtain ⟨s0, s1, t0, t1, l⟩ := h.semi
  have e := end_b (a := a) (h := a.to) t0 t1 s0 s1
  rcases h with ⟨T1, h⟩ | ⟨T1, T2, h, hne⟩
  · have hf := h.N.f
    unfold freeP at hf
    rw [h.cy, if_neg (by decide)] at hf
    omega
  · have := h.c.in1 (h.sc.resolve_left hne)
    have := h.c.nums
    omega
/-- A cycle is brought to its end. -/
theorem fin_gd {a : Ar} (h : Gd a) : (∃ T1, I0 (finA a) T1) ∧ Sz a (finA a) ∧ (finA a).to = a.to ∧ ∀ n : Nat, a.semi ≤ n → stepsA n (overA a) = finA a := by
  obtain ⟨s0, s1, t0, t1, l⟩ := h.semi
  have hr := h.room
  unfold finA
  rw [h.over]
  obtain ⟨g1, g2, g3, g4⟩ := steps_gd 8000 a h
  have c := g4 (by omega)
  refine ⟨?_, g2, g3, fun n hn => ?_⟩
  · rcases g1 with k | ⟨T1, T2, k, _⟩
    · exact k
    · rw [k.c.cy] at c; cases c
  · have cn := (steps_gd n a h).2.2.2 (by omega)
    rcases Nat.le_total n 8000 with k | k
    · obtain ⟨j, ej⟩ := Nat.exists_eq_add_of_le k
      have := steps_more n j cn
      rw [← this, ← ej]
    · obtain ⟨j, rfl⟩ := Nat.exists_eq_add_of_le k
      exact steps_more 8000 j c
end Go.Proofs.YtpdcjocjkbgddaaGreat.Abs
/- Copying: flips and collections; a right arena is one between two steps (plain). -/
namespace Go.Proofs.YtpdcjocjkbgddaaGreat.Abs
open Go.RowKit
set_option linter.unusedVariables false
set_option linter.unusedSimpArgs false
set_option maxRecDepth 20000
/-- The Roots from i on are forwarded. -/
def flR : Nat → Nat → Ar → Ar
  | 0, _, a => a
  | d + 1, i, a => flR d (i + 1) { (fwdA a (a.rs.getD i (0, 0))).1 with rs := (fwdA a (a.rs.getD i (0, 0))).1.rs.set i (fwdA a (a.rs.getD i (0, 0))).2 }
def flip0 (a : Ar) : Ar := { a with old := a.top, to := 1 - a.to, top := startA a (1 - a.to), scan := startA a (1 - a.to), cop := 0, cyc := true }
def flipA (a : Ar) : Ar := overA (flR a.rs.length 0 (flip0 a))
def collA (a : Ar) : Ar := finA (flipA (finA a))
theorem chain_sum {ws : List U64} : ∀ {T : List Int} {s e : Int}, Chain (szW ws) s e T → (∀ p ∈ T, okW (gw ws p) = true) → sumC ws T = e - s
  | [], s, e, h, _ => by have h : s = e := h; unfold sumC; omega
  | p :: T, s, e, ⟨h1, h2, h3, h4⟩, ho => by
    unfold sumC
    rw [if_pos (ho p (by simp)), chain_sum h4 fun q hq => ho q (by simp [hq])]
    omega
theorem half_len {a : Ar} {h : Int} (h0 : 0 ≤ h) (h1 : h ≤ 1) : endA a h = startA a h + (a.semi - 1) := by
  rw [startA_eq h0 h1, endA_eq h0 h1]
  split <;> omega
theorem flip0_ok {a : Ar} {T1 : List Int} (h : I0 a T1) : C0 (flip0 a) [] T1 := by
  have hN := h.N
  have s0 := hN.sm.s0
  have s1 := hN.sm.s1
  have t0 := hN.sm.t0
  have t1 := hN.sm.t1
  have p0 := hN.p0
  have p1 := hN.p1
  have l1 := half_len (a := a) (h := a.to) t0 t1
  have l2 := half_len (a := a) (h := 1 - a.to) (by omega) (by omega)
  have b1 := start_b (a := a) (h := 1 - a.to) (by omega) (by omega) s0 s1
  have e : (1 : Int) - (1 - a.to) = a.to := by omega
  have es : startA (flip0 a) (1 - (flip0 a).to) = startA a a.to := by show startA a (1 - (1 - a.to)) = _; rw [e]
  have ee : endA (flip0 a) (1 - (flip0 a).to) = endA a a.to := by show endA a (1 - (1 - a.to)) = _; rw [e]
  refine ⟨⟨h.wf.w, h.wf.n, h.wf.r⟩, ⟨⟨s0, s1, by show 0 ≤ 1 - a.to; omega, by show 1 - a.to ≤ 1; omega, hN.sm.l⟩, hN.z0, hN.z1, hN.r, Int.le_refl _, by show startA a (1 - a.to) ≤ endA a (1 - a.to); omega, ?_⟩, rfl, rfl, fun p hp => (by cases hp), ?_, fun p hp => .inl (h.h1 p hp), ?_, fun p hp => (by cases hp), fun p hp _ x hx => ?_⟩
  · unfold freeP
    rw [if_pos (show (flip0 a).cyc = true from rfl), es, ee]
    show startA a a.to ≤ a.top ∧ a.top ≤ endA a a.to ∧ (0 : Int) ≤ 0 ∧ (0 : Int) ≤ a.top - startA a a.to ∧ startA a (1 - a.to) + a.top - startA a a.to - 0 ≤ endA a (1 - a.to)
    omega
  · rw [es]
    exact h.c1.congr fun p hp => if_pos (h.h1 p hp)
  · rw [es]
    show a.top - startA a a.to - 0 = sumC a.ws T1
    rw [chain_sum h.c1 h.h1]
    omega
  · exact h.v p hp x hx
structure FlI (a : Ar) (T1 T2 : List Int) (i : Nat) : Prop where
  c : C0 a T1 T2
  s : a.scan = startA a a.to
  r : ∀ (j : Nat) (h : j < a.rs.length), valOkB a.rs[j] = true ∧ (isRefB a.rs[j] = true → (j < i → a.rs[j].2 ∈ T1) ∧ (a.rs[j].2 ∈ T1 ∨ a.rs[j].2 ∈ T2))
theorem flR_ok {T2 : List Int} : ∀ (d i : Nat) (a : Ar) (T1 : List Int), i + d = a.rs.length → FlI a T1 T2 i → ∃ T1', FlI (flR d i a) T1' T2 a.rs.length ∧ Sz a (flR d i a) ∧ (flR d i a).to = a.to
  | 0, i, a, T1, hi, h => ⟨T1, by have : i = a.rs.length := by omega
                                  rw [← this]; exact h, Sz.refl a, rfl⟩
  | d + 1, i, a, T1, hi, h => by
    have hlt : i < a.rs.length := by omega
    obtain ⟨v1, v2⟩ := h.r i hlt
    have eg : a.rs.getD i (0, 0) = a.rs[i] := by rw [List.getD_eq_getElem?_getD, List.getElem?_eq_getElem hlt]; rfl
    unfold flR
    rw [eg]
    obtain ⟨Ta, F⟩ := fwd_ok h.c v1 fun hr => (v2 hr).2
    generalize hf : fwdA a a.rs[i] = fr at F ⊢
    obtain ⟨b, w⟩ := fr
    have F : FwdOk a T1 T2 a.rs[i] b w Ta := F
    have hrs : b.rs = a.rs := F.f.rs
    have hl : (b.rs.set i w).length = b.rs.length := by rw [List.length_set]
    have hb : FlI { b with rs := b.rs.set i w } Ta T2 (i + 1) := by
      refine ⟨F.c.put_rs hl, ?_, fun j hj => ?_⟩
      · show b.scan = startA b b.to
        rw [F.f.scan, h.s, F.f.start, F.f.to]
      · have hj : j < (b.rs.set i w).length := hj
        show valOkB (b.rs.set i w)[j] = true ∧ (isRefB (b.rs.set i w)[j] = true → (j < i + 1 → (b.rs.set i w)[j].2 ∈ Ta) ∧ ((b.rs.set i w)[j].2 ∈ Ta ∨ (b.rs.set i w)[j].2 ∈ T2))
        rw [List.getElem_set]
        by_cases e : i = j
        · rw [if_pos e]
          exact ⟨F.ok, fun hr => ⟨fun _ => F.r hr, .inl (F.r hr)⟩⟩
        · rw [if_neg e]
          have hja : j < a.rs.length := by rw [hl, hrs] at hj; exact hj
          have ej : b.rs[j]'(by rw [hrs]; exact hja) = a.rs[j] := by simp only [hrs]
          rw [ej]
          obtain ⟨w1, w2⟩ := h.r j hja
          exact ⟨w1, fun hr => ⟨fun hjl => F.sub _ ((w2 hr).1 (by omega)), (w2 hr).2.imp (F.sub _) id⟩⟩
    obtain ⟨T', k1, k2, k3⟩ := flR_ok d (i + 1) _ Ta (by show i + 1 + d = (b.rs.set i w).length; rw [hl, hrs]; omega) hb
    have hlen : ({ b with rs := b.rs.set i w } : Ar).rs.length = a.rs.length := by show (b.rs.set i w).length = _; rw [hl, hrs]
    rw [hlen] at k1
    exact ⟨T', k1, ⟨k2.semi.trans F.f.semi, k2.ser.trans F.f.ser, k2.len.trans F.f.len, k2.rl.trans hlen⟩, k3.trans F.f.to⟩
/-- A flip of an arena in which no cycle runs. -/
theorem flip_gd {a : Ar} {T1 : List Int} (h : I0 a T1) : Gd (flipA a) ∧ Sz a (flipA a) ∧ (flipA a).to = 1 - a.to := by
  have c := flip0_ok h
  have hI : FlI (flip0 a) [] T1 0 := ⟨c, rfl, fun j hj => by
    have := h.r a.rs[j] (List.getElem_mem hj)
    exact ⟨this.1, fun hr => ⟨fun e => by omega, .inr (this.2 hr)⟩⟩⟩
  obtain ⟨T', k1, k2, k3⟩ := flR_ok (flip0 a).rs.length 0 (flip0 a) [] (by omega) hI
  have k1 : FlI (flR a.rs.length 0 (flip0 a)) T' T1 a.rs.length := k1
  have k2 : Sz a (flR a.rs.length 0 (flip0 a)) := ⟨k2.semi, k2.ser, k2.len, k2.rl⟩
  have hC1 : C1 (flR a.rs.length 0 (flip0 a)) T' T1 := by
    refine ⟨k1.c, ?_, fun q hq hlt => ?_, fun v hv => ?_⟩
    · rw [k1.s]
      rcases k1.c.c1.first with e | e
      · exact .inl e
      · exact .inr e
    · have := k1.c.in1 hq
      have hs := k1.s
      omega
    · obtain ⟨j, hj, e⟩ := List.mem_iff_getElem.1 hv
      obtain ⟨w1, w2⟩ := k1.r j hj
      rw [← e]
      refine ⟨w1, fun hr => (w2 hr).1 ?_⟩
      have := k2.rl
      show j < a.rs.length
      omega
  obtain ⟨o1, o2, o3, o4⟩ := hC1.over
  exact ⟨o1, k2.trans o2, o3.trans k3⟩
theorem coll_gd {a : Ar} (h : Gd a) : (∃ T1, I0 (collA a) T1) ∧ Sz a (collA a) := by
  obtain ⟨⟨T1, f1⟩, f2, f3, f4⟩ := fin_gd h
  obtain ⟨g1, g2, g3⟩ := flip_gd f1
  obtain ⟨⟨T1', k1⟩, k2, k3, k4⟩ := fin_gd g1
  exact ⟨⟨T1', k1⟩, f2.trans (g2.trans k2)⟩
end Go.Proofs.YtpdcjocjkbgddaaGreat.Abs
/- Copying: a right arena is one to copy in (plain). -/
namespace Go.Proofs.YtpdcjocjkbgddaaGreat.Abs
open Go.RowKit
set_option linter.unusedVariables false
set_option linter.unusedSimpArgs false
set_option maxRecDepth 20000
/-- The places of a half that was gone over. -/
structure WkC (a : Ar) (k p to_ : Int) (mk mk' : List Int) (sum sum' : Int) (T : List Int) : Prop where
  c : Chain (szC a.ws) p to_ T
  m : ∀ q, p ≤ q → q < to_ → (gi mk' q ≠ 0 ↔ q ∈ T)
  s : sumC a.ws T + (sum' - sum) = to_ - p
theorem wk_chain {a : Ar} (hw : a.wf) {to_ k : Int} (hk : k ≠ 0) : ∀ (f : Nat) (p : Int) (mk led : List Int) (sum : Int) (mk' : List Int) (sum' : Int), 0 ≤ p → p ≤ to_ → to_ ≤ mk.length → (∀ q, p ≤ q → q < to_ → gi mk q = 0) → wk a to_ k f p mk led sum = some (mk', sum') → ∃ T, WkC a k p to_ mk mk' sum sum' T
  | 0, p, mk, led, sum, mk', sum', _, _, _, _, h => by cases h
  | f + 1, p, mk, led, sum, mk', sum', p0, p1, tl, hz, h => by
    have hA := wk_ok hw _ _ _ _ _ _ _ p0 p1 tl h
    unfold wk at h
    by_cases c : p = to_
    · rw [if_pos c] at h
      cases h
      exact ⟨[], c, fun q h1 h2 => by omega, by unfold sumC; omega⟩
    rw [if_neg c] at h
    by_cases c1 : okW (gw a.ws p) = true
    · rw [if_pos c1] at h
      by_cases c2 : serW a.ws p < a.ser ∧ p + szW a.ws p + 1 ≤ to_
      · rw [if_pos c2] at h
        have b := look_b hw p
        have hr := wk_ok hw f _ _ _ _ _ _ (by omega) c2.2 (by rw [setI_len]; exact tl) h
        have e : ∀ q, 0 ≤ q → gi (setI mk p k) q = if q = p then k else gi mk q := fun q q0 => gi_set p0 (by omega) q0
        obtain ⟨T, r⟩ := wk_chain hw hk f _ _ _ _ _ _ (by omega) c2.2 (by rw [setI_len]; exact tl) (fun q q0 q1 => by rw [e q (by omega), if_neg (by omega)]; exact hz q (by omega) q1) h
        have ez : szC a.ws p = szW a.ws p := if_pos c1
        refine ⟨p :: T, ⟨rfl, by rw [ez]; exact b.1, by rw [ez]; exact c2.2, by rw [ez]; exact r.c⟩, fun q q0 q1 => ?_, ?_⟩
        · rw [List.mem_cons]
          by_cases d : q < p + szW a.ws p + 1
          · have h1 := hr.o q (by omega) (.inl d)
            rw [e q (by omega)] at h1
            have hnT : q ∉ T := fun hq => by have := (r.c.mem q hq).1; omega
            by_cases d2 : q = p
            · rw [if_pos d2] at h1
              rw [h1]
              exact ⟨fun _ => .inl d2, fun _ => hk⟩
            · rw [if_neg d2, hz q q0 q1] at h1
              rw [h1]
              exact ⟨fun h => absurd rfl h, fun h => (h.elim d2 hnT).elim⟩
          · rw [r.m q (by omega) q1]
            exact ⟨fun h => .inr h, fun h => h.resolve_left (by omega)⟩
        · unfold sumC
          rw [if_pos c1]
          have := r.s
          omega
      · rw [if_neg c2] at h; cases h
    · rw [if_neg c1] at h
      by_cases c2 : k = 2 ∧ (fwd (gw a.ws p)).2 = true ∧ toW a.ws p < a.ws.length ∧ gi mk (toW a.ws p) = 1 ∧ toW a.ws p ∉ led ∧ p + szW a.ws (toW a.ws p) + 1 ≤ to_
      · rw [if_pos c2] at h
        obtain ⟨k2, f2, t2, g2, l2, b2⟩ := c2
        have b := look_b hw (toW a.ws p)
        have hr := wk_ok hw f _ _ _ _ _ _ (by omega) b2 (by rw [setI_len]; exact tl) h
        have e : ∀ q, 0 ≤ q → gi (setI mk p 3) q = if q = p then 3 else gi mk q := fun q q0 => gi_set p0 (by omega) q0
        obtain ⟨T, r⟩ := wk_chain hw hk f _ _ _ _ _ _ (by omega) b2 (by rw [setI_len]; exact tl) (fun q q0 q1 => by rw [e q (by omega), if_neg (by omega)]; exact hz q (by omega) q1) h
        have ez : szC a.ws p = szW a.ws (toW a.ws p) := if_neg c1
        refine ⟨p :: T, ⟨rfl, by rw [ez]; exact b.1, by rw [ez]; exact b2, by rw [ez]; exact r.c⟩, fun q q0 q1 => ?_, ?_⟩
        · rw [List.mem_cons]
          by_cases d : q < p + szW a.ws (toW a.ws p) + 1
          · have h1 := hr.o q (by omega) (.inl d)
            rw [e q (by omega)] at h1
            have hnT : q ∉ T := fun hq => by have := (r.c.mem q hq).1; omega
            by_cases d2 : q = p
            · rw [if_pos d2] at h1
              rw [h1]
              exact ⟨fun _ => .inl d2, fun _ => by decide⟩
            · rw [if_neg d2, hz q q0 q1] at h1
              rw [h1]
              exact ⟨fun h => absurd rfl h, fun h => (h.elim d2 hnT).elim⟩
          · rw [r.m q (by omega) q1]
            exact ⟨fun h => .inr h, fun h => h.resolve_left (by omega)⟩
        · unfold sumC
          rw [if_neg c1]
          have := r.s
          omega
      · rw [if_neg c2] at h; cases h
theorem frm_1 {a : Ar} {mk : List Int} {v : Vl} {frm : Int} (h : leadsB a mk v frm = true) (hr : isRefB v = true) : v.2 < mk.length ∧ (gi mk v.2 = 1 ∧ frm ≠ 3 ∨ (gi mk v.2 = 2 ∨ gi mk v.2 = 3) ∧ frm ≠ 1) := by
  unfold leadsB at h
  rw [hr, if_pos rfl] at h
  by_cases c : (mk.length : Int) ≤ v.2
  · rw [if_pos c] at h; cases h
  rw [if_neg c] at h
  split at h
  · rename_i d; exact ⟨by omega, d⟩
  · cases h
/-- A right arena: no cycle runs, or what always holds while one runs. -/
theorem ok_cyc {a : Ar} {mk : List Int} (hw : a.wf) (h : OkM a mk) : (∃ T1, I0 a T1) ∨ ∃ T1 T2, C1 a T1 T2 := by
  have hT := tile_ok hw h.N h.t
  have ht := h.t
  have hh := halves h.N
  have hf := h.N.f
  have hn := hT.n
  unfold freeP at hf
  have hz : (List.replicate a.ws.length (0 : Int)).length = a.ws.length := List.length_replicate
  cases e1 : tile1 a with
  | none => rw [tileO_n e1] at ht; cases ht
  | some y =>
    obtain ⟨mk1, x⟩ := y
    obtain ⟨n1, t1⟩ := tile1_ok hw h.N e1
    obtain ⟨T1, W1⟩ := wk_chain hw (by decide) _ _ _ _ _ _ _ (by omega) (by omega) (by omega) (fun q _ _ => gi_zero _ _) e1
    have m1 : ∀ q, q ∈ T1 ↔ 0 ≤ q ∧ gi mk1 q = 1 := fun q => by
      constructor
      · intro hq
        have hc := W1.c.mem q hq
        have := (W1.m q hc.1 (by omega)).2 hq
        rcases t1 q (by omega) with k | k
        · exact absurd k this
        · exact ⟨by omega, k.1⟩
      · rintro ⟨q0, hq⟩
        rcases t1 q q0 with k | ⟨k, k1, k2⟩
        · omega
        · have := k2.2.2
          have := (look_b hw q).1
          exact (W1.m q k1 (by omega)).1 (by omega)
    have ho1 : ∀ q ∈ T1, okW (gw a.ws q) = true := fun q hq => by
      obtain ⟨q0, q1⟩ := (m1 q).1 hq
      rcases t1 q q0 with k | k
      · omega
      · exact k.2.2.1
    have c1 : Chain (szW a.ws) (startA a a.to) a.top T1 := W1.c.congr fun q hq => (if_pos (ho1 q hq)).symm
    cases hc : a.cyc with
    | false =>
      have hmk : mk1 = mk := by rw [tileO_f e1 hc] at ht; cases ht; rfl
      subst hmk
      have ff : ∀ p, frmA a mk1 p = 1 ∨ frmA a mk1 p = 3 := fun p => by
        unfold frmA
        split
        · exact .inl rfl
        · split
          · left; rw [if_neg (fun e => by rw [hc] at e; cases e.1)]
          · exact .inr rfl
      refine .inl ⟨T1, hw, h.N, hc, c1, ho1, fun p hp x hx => ?_, fun v hv => ?_⟩
      · obtain ⟨q0, q1⟩ := (m1 p).1 hp
        have hcm := W1.c.mem p hp
        obtain ⟨k1, k2, k3⟩ := (h.o p q0 (by omega) (.inl q1)).1 x hx
        refine ⟨k1, fun hr => ?_⟩
        have rp := ref_pos k1 hr
        obtain ⟨l1, l2⟩ := frm_1 k2 hr
        rcases l2 with l | l
        · exact (m1 _).2 ⟨by omega, l.1⟩
        · rcases t1 _ (show 0 ≤ (valW a.ws (p + x)).2 by omega) with z | z <;> omega
      · obtain ⟨k1, k2, k3⟩ := h.r v hv
        refine ⟨k1, fun hr => ?_⟩
        have rp := ref_pos k1 hr
        obtain ⟨l1, l2⟩ := frm_1 k3 hr
        exact (m1 _).2 ⟨by omega, by omega⟩
    | true =>
      rw [if_pos hc] at hf
      obtain ⟨x1, x2⟩ := tileO_c e1 hc ht
      obtain ⟨n2, _, _, t2⟩ := tile2_ok hw h.N hc e1 x1
      have z2 : ∀ q, startA a (1 - a.to) ≤ q → q < a.old → gi mk1 q = 0 := fun q q0 q1 => by
        rcases t2 q (by omega) with u | u <;> omega
      obtain ⟨T2, W2⟩ := wk_chain hw (by decide) _ _ _ _ _ _ _ (by omega) (by omega) (by omega) z2 x1
      have m2 : ∀ q, q ∈ T2 ↔ 0 ≤ q ∧ (gi mk q = 2 ∨ gi mk q = 3) := fun q => by
        constructor
        · intro hq
          have hcm := W2.c.mem q hq
          have := (W2.m q hcm.1 (by omega)).2 hq
          rcases t2 q (by omega) with u | ⟨u, v1, v2, w⟩
          · omega
          · refine ⟨by omega, ?_⟩
            rcases w with w | w | w
            · exact absurd w this
            · exact .inl w.1
            · exact .inr w.1
        · rintro ⟨q0, hq⟩
          rcases t2 q q0 with ⟨u, _⟩ | ⟨u, v1, v2, w⟩
          · rcases t1 q q0 with k | k <;> omega
          · exact (W2.m q v1 v2).1 (by omega)
      have m1' : ∀ q, q ∈ T1 ↔ 0 ≤ q ∧ gi mk q = 1 := fun q => by
        rw [m1 q]
        constructor
        · rintro ⟨q0, hq⟩
          rcases t2 q q0 with ⟨u, _⟩ | u
          · exact ⟨q0, by omega⟩
          · omega
        · rintro ⟨q0, hq⟩
          rcases t2 q q0 with ⟨u, _⟩ | ⟨u, v1, v2, w⟩
          · exact ⟨q0, by omega⟩
          · omega
      have in1 : ∀ q ∈ T1, startA a a.to ≤ q ∧ q < a.top := fun q hq => by have := W1.c.mem q hq; omega
      refine .inr ⟨T1, T2, ⟨hw, h.N, hc, c1, ho1, W2.c, fun q hq => ?_, ?_, fun p hp x hx => ?_, fun p hp hok x hx => ?_⟩, ?_, fun q hq hlt x hx hr => ?_, fun v hv => ?_⟩
      · obtain ⟨q0, q1⟩ := (m2 q).1 hq
        have hcm := W2.c.mem q hq
        rcases q1 with k | k
        · exact .inl (hT.h q q0 (by omega) (.inr k)).1
        · obtain ⟨g1, g2, g3⟩ := hT.g q q0 (by omega) k
          exact .inr ⟨g1, (m1' _).2 ⟨(fwd_b _).1, g3⟩⟩
      · have := W2.s
        omega
      · obtain ⟨q0, q1⟩ := (m1' p).1 hp
        have hcm := in1 p hp
        obtain ⟨k1, k2, k3⟩ := (h.o p q0 (by omega) (.inl q1)).1 x hx
        refine ⟨k1, fun hr => ?_⟩
        have rp := ref_pos k1 hr
        obtain ⟨l1, l2⟩ := frm_1 k2 hr
        rcases l2 with l | l
        · exact .inl ((m1' _).2 ⟨by omega, l.1⟩)
        · exact .inr ((m2 _).2 ⟨by omega, l.1⟩)
      · obtain ⟨q0, q1⟩ := (m2 p).1 hp
        have hcm := W2.c.mem p hp
        have q2 : gi mk p = 2 := by
          rcases q1 with k | k
          · exact k
          · have := (hT.g p q0 (by omega) k).1
            have := ok_fwd (gw_in hw.w p) hok
            simp_all
        obtain ⟨k1, k2, k3⟩ := (h.o p q0 (by omega) (.inr q2)).1 x hx
        refine ⟨k1, fun hr => ?_⟩
        have rp := ref_pos k1 hr
        obtain ⟨l1, l2⟩ := frm_1 k2 hr
        have ef : frmA a mk p = 3 := by unfold frmA; rw [if_neg (by omega), if_neg (by omega)]
        rw [ef] at l2
        exact (m2 _).2 ⟨by omega, by omega⟩
      · rcases x2 with k | ⟨k1, k2, k3⟩
        · exact .inl k
        · exact .inr ((m1' _).2 ⟨k1, k3⟩)
      · obtain ⟨q0, q1⟩ := (m1' q).1 hq
        have hcm := in1 q hq
        obtain ⟨k1, k2, k3⟩ := (h.o q q0 (by omega) (.inl q1)).1 x hx
        have rp := ref_pos k1 hr
        obtain ⟨l1, l2⟩ := frm_1 k2 hr
        have ef : frmA a mk q = 1 := by unfold frmA; rw [if_neg (by omega), if_pos q1, if_neg (by omega)]
        rw [ef] at l2
        exact (m1' _).2 ⟨by omega, by omega⟩
      · obtain ⟨k1, k2, k3⟩ := h.r v hv
        refine ⟨k1, fun hr => ?_⟩
        have rp := ref_pos k1 hr
        obtain ⟨l1, l2⟩ := frm_1 k3 hr
        exact (m1' _).2 ⟨by omega, by omega⟩
end Go.Proofs.YtpdcjocjkbgddaaGreat.Abs
