/- Asking for an object, by the reference. -/
import Derived.Test.YtpdcjocjkbgddaaGreatUg
import Derived.Test.YtpdcjocjkbgddaaGreatUe
namespace Go.Proofs.YtpdcjocjkbgddaaGreat.Abs
open Go.RowKit
set_option linter.unusedVariables false
set_option linter.unusedSimpArgs false
set_option maxRecDepth 20000
def akN (Q : Value → Mem → Prop) (g1 g3 : Nat) (m4 : Mem) : Prop :=
  shN_9 (fun _ _ _ _ => True) Q m4 g1 g3
def akW (call : FuncId → Spec) (Q : Value → Mem → Prop) (a2 : Int) (g1 g3 g514 : Nat) (m516 : Mem) : Prop :=
  (∃ y595 : Int, (ciN m516 g1 3 y595 ∧ (∃ S597 : Mem → Prop, S597 m516 ∧ (∃ (ra598 : Option Addr) (rn599 rc600 : Nat), ((hsN S597 g1 0 ra598 rn599 rc600) ∧ (∃ y602 : Int, ((hiN S597 g514 0 y602) ∧ (∃ y604 : Int, ((hiN S597 g514 1 y604) ∧ (∃ y606 : Int, ((hiN S597 g514 2 y606) ∧ (call 79 [(.agg #[(.int .i64 y602), (.int .i64 y604), (.int .i64 y606)])] m516 fun v608 m609 => (∃ y610 : Int, (∃ b611 : Bool, (v608 = (.tuple #[(.int .u64 y610), (.bool b611)]) ∧ (S597 m609 ∧ (optA ra598 fun d612 => (0 ≤ y595 ∧ y595 < ((rn599 : Nat) : Int) ∧ (stoA m609 (d612.add (Int.toNat y595 * 1)) [(.int .u64 y610)] fun m613 => (S597 m613 ∧ (∃ k614 : Nat, L45_19 call k614 Q a2 g1 g3 ((IntKind.i64.wrap (a2 + (1 : Int)))) y595 ((1 : Int)) m613)))))))))))))))))))))
def akB (call : FuncId → Spec) (Q : Value → Mem → Prop) (a2 : Int) (g1 g3 g514 : Nat) (m516 : Mem) : Prop :=
  (∃ y517 : Int, (ciN m516 g1 8 y517 ∧ (stoA m516 ⟨g514, 2, none⟩ [(.int .i64 y517)] fun m519 => (∃ y520 : Int, (ciN m519 g1 8 y520 ∧ (stoA m519 ⟨g1, 8, none⟩ [(.int .i64 (IntKind.i64.wrap (y520 + (1 : Int))))] fun m522 => (∃ y523 : Int, (ciN m522 g1 3 y523 ∧ (∃ S525 : Mem → Prop, S525 m522 ∧ (∃ (ra526 : Option Addr) (rn527 rc528 : Nat), ((hsN S525 g1 0 ra526 rn527 rc528) ∧ (∃ y530 : Int, ((hiN S525 g514 0 y530) ∧ (∃ y532 : Int, ((hiN S525 g514 1 y532) ∧ (∃ y534 : Int, ((hiN S525 g514 2 y534) ∧ (call 79 [(.agg #[(.int .i64 y530), (.int .i64 y532), (.int .i64 y534)])] m522 fun v536 m537 => (∃ y538 : Int, (∃ b539 : Bool, (v536 = (.tuple #[(.int .u64 y538), (.bool b539)]) ∧ (S525 m537 ∧ (optA ra526 fun d540 => (0 ≤ y523 ∧ y523 < ((rn527 : Nat) : Int) ∧ (stoA m537 (d540.add (Int.toNat y523 * 1)) [(.int .u64 y538)] fun m541 => (S525 m541 ∧ (∃ k542 : Nat, L45_19 call k542 Q a2 g1 g3 ((IntKind.i64.wrap (a2 + (1 : Int)))) y523 ((1 : Int)) m541)))))))))))))))))))))))))))
def akP (call : FuncId → Spec) (Q : Value → Mem → Prop) (a1 a2 : Int) (g1 g3 : Nat) (m218 : Mem) : Prop :=
  shN_11 call Q m218 g1 a2 g3 a1
def akR (call : FuncId → Spec) (Q : Value → Mem → Prop) (a1 a2 : Int) (g1 g3 : Nat) (m192 : Mem) : Prop :=
  shN_12 call Q m192 g1 a2 g3 a1
theorem akN_ok {Q : Value → Mem → Prop} {g1 g3 : Nat} {s r : Sl} {b : Ar} {D : List Nat} {M m0 : Mem} (im : Im M g1 s r b D) (h3 : M g3 = some (.cells #[.slice none 0 0, .int .i64 0, .int .i64 0, .int .i64 0, .bool false, .int .i64 0, .int .i64 0, .int .i64 0, .int .i64 0, .slice none 0 0] 29 (0, 0))) (z3 : m0 g3 = none) (d3 : g3 ∉ D)
    (hO : Off D m0 M) (hQ : ∀ m', (∀ b, b ∉ D → m' b = m0 b) → Wo m' s r b D → Q (.tuple #[vA s r b, .int .i64 0, .int .i64 2]) m') : akN Q g1 g3 M := by
  unfold akN
  obtain ⟨wa, wn, wc⟩ := s
  obtain ⟨ra, rn, rc⟩ := r
  refine ⟨_, _, _, cell_of im.p 0, _, cell_of im.p 1, _, cell_of im.p 2, _, cell_of im.p 3, _, cell_of im.p 4, _, cell_of im.p 5, _, cell_of im.p 6, _, cell_of im.p 7, _, cell_of im.p 8, _, _, _, cell_of im.p 9, ?_⟩
  refine sto_ar h3 fun m1 e1 q1 ne1 => ?_
  have p3 : Ptr m1 g3 ⟨wa, wn, wc⟩ ⟨ra, rn, rc⟩ b := q1
  refine ⟨_, _, _, cell_of p3 0, _, cell_of p3 1, _, cell_of p3 2, _, cell_of p3 3, _, cell_of p3 4, _, cell_of p3 5, _, cell_of p3 6, _, cell_of p3 7, _, cell_of p3 8, _, _, _, cell_of p3 9, ?_⟩
  exact ret_off (hO.fresh z3 ne1) (hQ _ (fun b hb => mix_off hb) (Wo.mix (im.w.ext fun q hq => ne1 q (fun e => d3 (e ▸ hq)))))
/-- The object's words are cleared, and it is counted. -/
theorem ak_loop {call : FuncId → Spec} {Q : Value → Mem → Prop} {g1 g3 : Nat} {s r : Sl} {D : List Nat} {m0 : Mem} {n p : Int} {a : Ar} (z1 : m0 g1 = none) (z3 : m0 g3 = none) (d3 : g3 ∉ D) (n31 : g3 ≠ g1) (n0 : 0 ≤ n) (nb : n ≤ 256) (p0 : 0 ≤ p) (p1 : p + n + 1 ≤ a.ws.length) (p2 : a.ws.length ≤ 2 ^ 20)
    (hQ : ∀ m', (∀ b, b ∉ D → m' b = m0 b) → Wo m' s r { a with ws := clrW a.ws (p + 1) n.toNat, top := p + (n + 1) } D → Q (.tuple #[vA s r { a with ws := clrW a.ws (p + 1) n.toNat, top := p + (n + 1) }, .int .i64 p, .int .i64 0]) m') :
    ∀ (d i : Nat), (i : Int) + d = n → ∀ M, Im M g1 s r { a with ws := clrW a.ws (p + 1) i } D → Off D m0 M → M g3 = some (.cells #[.slice none 0 0, .int .i64 0, .int .i64 0, .int .i64 0, .bool false, .int .i64 0, .int .i64 0, .int .i64 0, .int .i64 0, .slice none 0 0] 29 (0, 0)) → L45_19 call (d + 1) Q n g1 g3 (n + 1) p ((i : Int) + 1) M := by
  intro d
  induction d with
  | zero =>
    intro i hi M im hO h3
    rw [l45_19]
    refine ⟨M, Mem.le_refl _, ?_⟩
    rw [if_neg (by simp; omega), w64 (x := p + (n + 1)) (by omega) (by omega)]
    have ei : i = n.toNat := by omega
    subst ei
    refine im.fld 3 _ { a with ws := clrW a.ws (p + 1) n.toNat, top := p + (n + 1) } rfl (by decide) rfl rfl rfl fun m1 o1 im1 => ?_
    have h31 := (o1 g3 n31).trans h3
    obtain ⟨wa, wn, wc⟩ := s
    obtain ⟨ra, rn, rc⟩ := r
    refine ⟨_, _, _, cell_of im1.p 0, _, cell_of im1.p 1, _, cell_of im1.p 2, _, cell_of im1.p 3, _, cell_of im1.p 4, _, cell_of im1.p 5, _, cell_of im1.p 6, _, cell_of im1.p 7, _, cell_of im1.p 8, _, _, _, cell_of im1.p 9, ?_⟩
    refine sto_ar h31 fun m2 e2 q2 ne2 => ?_
    have p3 : Ptr m2 g3 ⟨wa, wn, wc⟩ ⟨ra, rn, rc⟩ { a with ws := clrW a.ws (p + 1) n.toNat, top := p + (n + 1) } := q2
    refine ⟨_, _, _, cell_of p3 0, _, cell_of p3 1, _, cell_of p3 2, _, cell_of p3 3, _, cell_of p3 4, _, cell_of p3 5, _, cell_of p3 6, _, cell_of p3 7, _, cell_of p3 8, _, _, _, cell_of p3 9, ?_⟩
    exact ret_off ((hO.fresh z1 o1).fresh z3 ne2) (hQ _ (fun b hb => mix_off hb) (Wo.mix (im1.w.ext fun q hq => ne2 q (fun e => d3 (e ▸ hq)))))
  | succ d ih =>
    intro i hi M im hO h3
    rw [l45_19]
    refine ⟨M, Mem.le_refl _, ?_⟩
    rw [if_pos (by simp; omega), w64 (x := p + ((i : Int) + 1)) (by omega) (by omega), w64 (x := (i : Int) + 1 + 1) (by omega) (by omega)]
    refine ⟨_, _, _, cell_of im.p 0, ?_⟩
    have hlen : (clrW a.ws (p + 1) i).length = a.ws.length := clrW_len _ _ _
    refine im.put_w (by omega) (by show p + (↑i + 1) < ((clrW a.ws (p + 1) i).length : Int); omega) fun m1 o1 im1 => ?_
    have e : setW (clrW a.ws (p + 1) i) (p + ((i : Int) + 1)) 0 = clrW a.ws (p + 1) (i + 1) := by
      show _ = setW (clrW a.ws (p + 1) i) (p + 1 + i) 0
      congr 1
      omega
    have im2 : Im m1 g1 s r { a with ws := clrW a.ws (p + 1) (i + 1) } D := by rw [← e]; exact im1
    exact ih (i + 1) (by omega) m1 im2 (hO.trans (Off.of_eq o1)) ((o1 g3 d3).trans h3)
theorem akW_ok (t : Tab) (h79 : look t 79 = s79) {Q : Value → Mem → Prop} {g1 g3 g6 : Nat} {s r : Sl} {a : Ar} {D : List Nat} {M m0 : Mem} {k n z : Int} (im : Im M g1 s r a D) (hO : Off D m0 M) (z1 : m0 g1 = none) (z3 : m0 g3 = none) (d3 : g3 ∉ D) (n31 : g3 ≠ g1) (h3 : M g3 = some (.cells #[.slice none 0 0, .int .i64 0, .int .i64 0, .int .i64 0, .bool false, .int .i64 0, .int .i64 0, .int .i64 0, .int .i64 0, .slice none 0 0] 29 (0, 0))) (d6 : g6 ∉ D)
    (hh : M g6 = some (.cells #[.int .i64 k, .int .i64 n, .int .i64 z] 72 (0, 0))) (hok : hdOk k n z = true) (t0 : 0 ≤ a.top) (t1 : a.top + n + 1 ≤ a.ws.length) (t2 : a.ws.length ≤ 2 ^ 20)
    (hQ : ∀ m', (∀ b, b ∉ D → m' b = m0 b) → Wo m' s r (putW k n z a) D → Q (.tuple #[vA s r (putW k n z a), .int .i64 a.top, .int .i64 0]) m') : akW (look t) Q n g1 g3 g6 M := by
  have b := hd_b hok
  unfold akW
  refine ⟨_, cell_of im.p 3, fun q => q g1 = M g1 ∧ q g6 = M g6, ⟨rfl, rfl⟩, _, _, _, fun q hq => cell_of (hq.1.trans im.p) 0, _, fun q hq => cell_of (hq.2.trans hh) 0, _, fun q hq => cell_of (hq.2.trans hh) 1, _, fun q hq => cell_of (hq.2.trans hh) 2, ?_⟩
  refine via h79 ⟨k, n, z, rfl, by omega, ?_⟩
  rw [hok, if_pos rfl]
  refine ⟨_, _, rfl, ⟨rfl, rfl⟩, ?_⟩
  refine im.put_w t0 (by omega) fun m1 o1 im1 => ⟨⟨o1 g1 im.g, o1 g6 d6⟩, n.toNat + 1, ?_⟩
  rw [w64 (x := n + 1) (by omega) (by omega)]
  exact ak_loop (a := { a with ws := setW a.ws a.top (packH k n z) }) z1 z3 d3 n31 (by omega) (by omega) t0 (by show a.top + n + 1 ≤ ((setW a.ws _ _).length : Int); rw [setW_len]; exact t1) (by show (setW a.ws _ _).length ≤ _; rw [setW_len]; exact t2) hQ n.toNat 0 (by omega) m1 im1 (hO.trans (Off.of_eq o1)) ((o1 g3 d3).trans h3)
theorem akB_ok (t : Tab) (h79 : look t 79 = s79) {Q : Value → Mem → Prop} {g1 g3 g6 : Nat} {s r : Sl} {a : Ar} {D : List Nat} {M m0 : Mem} {k n : Int} (im : Im M g1 s r a D) (hO : Off D m0 M) (z1 : m0 g1 = none) (z3 : m0 g3 = none) (d3 : g3 ∉ D) (n31 : g3 ≠ g1) (n61 : g6 ≠ g1) (n63 : g6 ≠ g3) (z6 : m0 g6 = none) (h3 : M g3 = some (.cells #[.slice none 0 0, .int .i64 0, .int .i64 0, .int .i64 0, .bool false, .int .i64 0, .int .i64 0, .int .i64 0, .int .i64 0, .slice none 0 0] 29 (0, 0))) (d6 : g6 ∉ D)
    (hh : M g6 = some (.cells #[.int .i64 k, .int .i64 n, .int .i64 0] 72 (0, 0))) (hok : hdOk k n a.ser = true) (t0 : 0 ≤ a.top) (t1 : a.top + n + 1 ≤ a.ws.length) (t2 : a.ws.length ≤ 2 ^ 20)
    (hQ : ∀ m', (∀ b, b ∉ D → m' b = m0 b) → Wo m' s r { putW k n a.ser a with ser := a.ser + 1 } D → Q (.tuple #[vA s r { putW k n a.ser a with ser := a.ser + 1 }, .int .i64 a.top, .int .i64 0]) m') : akB (look t) Q n g1 g3 g6 M := by
  have b := hd_b hok
  unfold akB
  refine ⟨_, cell_of im.p 8, sto (c := #[.int .i64 k, .int .i64 n, .int .i64 0]) (t := 72) hh rfl (by simp) fun m4 e4 h4 ne4 => ?_⟩
  have h4 : m4 g6 = some (.cells #[.int .i64 k, .int .i64 n, .int .i64 a.ser] 72 (0, 0)) := h4
  have im4 := im.ext (m' := m4) fun q hq => ne4 q fun h => by
    rw [h] at hq
    rcases List.mem_cons.1 hq with e | e
    · exact n61 e
    · exact d6 e
  refine ⟨_, cell_of im4.p 8, ?_⟩
  rw [w64 (x := a.ser + 1) (by omega) (by omega)]
  refine im4.fld 8 _ { a with ser := a.ser + 1 } rfl (by decide) rfl rfl rfl fun m5 o5 im5 => ?_
  have h5 : m5 g6 = some (.cells #[.int .i64 k, .int .i64 n, .int .i64 a.ser] 72 (0, 0)) := by rw [o5 g6 n61]; exact h4
  have h35 : m5 g3 = some (.cells #[.slice none 0 0, .int .i64 0, .int .i64 0, .int .i64 0, .bool false, .int .i64 0, .int .i64 0, .int .i64 0, .int .i64 0, .slice none 0 0] 29 (0, 0)) := by rw [o5 g3 n31, ne4 g3 (Ne.symm n63)]; exact h3
  exact akW_ok t h79 im5 ((hO.fresh z6 ne4).fresh z1 o5) z1 z3 d3 n31 h35 d6 h5 hok t0 t1 t2 hQ
theorem akP_ok (t : Tab) (h79 : look t 79 = s79) (h77 : look t 77 = s77) {Q : Value → Mem → Prop} {g1 g3 : Nat} {s r : Sl} {a : Ar} {D : List Nat} {M m0 : Mem} {k n : Int} (im : Im M g1 s r a D) (hO : Off D m0 M) (z1 : m0 g1 = none) (z3 : m0 g3 = none) (d3 : g3 ∉ D) (n31 : g3 ≠ g1) (h3 : M g3 = some (.cells #[.slice none 0 0, .int .i64 0, .int .i64 0, .int .i64 0, .bool false, .int .i64 0, .int .i64 0, .int .i64 0, .int .i64 0, .slice none 0 0] 29 (0, 0)))
    (hsz : sizeB k n = true) (hN : NumP a) (hQ : ∀ m', (∀ b, b ∉ D → m' b = m0 b) → Wo m' s r (putA k n a).1 D → Q (.tuple #[vA s r (putA k n a).1, .int .i64 (putA k n a).2.1, .int .i64 (putA k n a).2.2]) m') : akP (look t) Q k n g1 g3 M := by
  unfold akP
  have hfl := free_le hN
  have sm := hN.sm
  have s1 := sm.s1
  have hl := sm.l
  have hz0 := hN.z0
  have hz1 := hN.z1
  have hok : hdOk k n (if bornB k = true then a.ser else 0) = true := by
    unfold hdOk
    rw [hsz]
    cases bornB k with
    | true => simp; omega
    | false => simp
  have b := hd_b hok
  have w1 : IntKind.i64.wrap (n + 1) = n + 1 := w64 (by omega) (by omega)
  refine ⟨_, _, _, cell_of im.p 0, _, cell_of im.p 1, _, cell_of im.p 2, _, cell_of im.p 3, _, cell_of im.p 4, _, cell_of im.p 5, _, cell_of im.p 6, _, cell_of im.p 7, _, cell_of im.p 8, _, _, _, cell_of im.p 9, ?_⟩
  refine via h77 ⟨s, r, a, rfl, hN, _, rfl, ?_⟩
  by_cases c : n + 1 > freeA a
  · rw [if_pos (by rw [w1]; simpa using c)]
    have e : putA k n a = (a, 0, 2) := if_pos c
    rw [e] at hQ
    exact (akN_ok im h3 z3 d3 hO hQ : akN Q g1 g3 M)
  rw [if_neg (by rw [w1]; simpa using c)]
  have e : putA k n a = (if bornB k = true then { putW k n a.ser a with ser := a.ser + 1 } else putW k n 0 a, a.top, 0) := if_neg c
  rw [e] at hQ
  refine newA_intro fun g6 m2 hg6 e2 hb2 hle2 => sto (c := #[.int .i64 0, .int .i64 0, .int .i64 0]) (t := 72) hb2 rfl (by simp) fun m3 e3 h6 ne3 => ?_
  have h6 : m3 g6 = some (.cells #[.int .i64 k, .int .i64 n, .int .i64 0] 72 (0, 0)) := h6
  have n6 := im.fresh hg6
  have d6 : g6 ∉ D := fun h => n6 (by simp [h])
  have n61 : g6 ≠ g1 := fun h => n6 (by simp [h])
  have n63 : g6 ≠ g3 := fun h => by rw [h, h3] at hg6; cases hg6
  have z6 : m0 g6 = none := hO.none hg6 d6
  have le3 : Mem.le M m3 := le_other hle2 hg6 ne3
  have im3 := im.le le3
  have hO3 : Off D m0 m3 := hO.trans (Off.of_le le3)
  have h33 := le3 _ _ h3
  have t1 : a.top + n + 1 ≤ a.ws.length := by omega
  have t2 : a.ws.length ≤ 2 ^ 20 := by omega
  cases hb : bornB k with
  | true =>
    rw [hb] at hok hQ
    have B : akB (look t) Q n g1 g3 g6 m3 := akB_ok t h79 im3 hO3 z1 z3 d3 n31 n61 n63 z6 h33 d6 h6 hok (by omega) t1 t2 hQ
    unfold bornB at hb
    rw [decide_eq_true_eq] at hb
    by_cases c2 : k = 2
    · rw [if_pos (by rw [c2]; rfl)]
      exact B
    rw [if_neg (by simpa using c2)]
    by_cases c4 : k = 4
    · rw [if_pos (by rw [c4]; rfl)]
      exact B
    have hk6 : k = 6 := by omega
    rw [if_neg (by simpa using c4), if_pos (by rw [hk6]; rfl)]
    exact B
  | false =>
    rw [hb] at hok hQ
    have B : akW (look t) Q n g1 g3 g6 m3 := akW_ok t h79 im3 hO3 z1 z3 d3 n31 h33 d6 h6 hok (by omega) t1 t2 hQ
    unfold bornB at hb
    rw [decide_eq_false_iff_not] at hb
    rw [if_neg (by simp; omega), if_neg (by simp; omega), if_neg (by simp; omega)]
    exact B
theorem akR_ok (t : Tab) (h79 : look t 79 = s79) (h77 : look t 77 = s77) (h78 : look t 78 = s78) {Q : Value → Mem → Prop} {g1 g3 : Nat} {s r : Sl} {a : Ar} {D : List Nat} {M m0 : Mem} {k n : Int} (im : Im M g1 s r a D) (hO : Off D m0 M) (z1 : m0 g1 = none) (z3 : m0 g3 = none) (d3 : g3 ∉ D) (n31 : g3 ≠ g1) (h3 : M g3 = some (.cells #[.slice none 0 0, .int .i64 0, .int .i64 0, .int .i64 0, .bool false, .int .i64 0, .int .i64 0, .int .i64 0, .int .i64 0, .slice none 0 0] 29 (0, 0)))
    (hsz : sizeB k n = true) (hG : OkC a) (hQ : ∀ m', (∀ b, b ∉ D → m' b = m0 b) → Wo m' s r (putA k n (roomA n a)).1 D → Q (.tuple #[vA s r (putA k n (roomA n a)).1, .int .i64 (putA k n (roomA n a)).2.1, .int .i64 (putA k n (roomA n a)).2.2]) m') : akR (look t) Q k n g1 g3 M := by
  unfold akR
  have hN := hG.num.1
  have hfl := free_le hN
  have sm := hN.sm
  have s1 := sm.s1
  have hl := sm.l
  have bn : 1 ≤ n ∧ n ≤ 256 := by
    have := hd_b (k := k) (s := n) (z := if bornB k = true then 1 else 0) (by unfold hdOk; rw [hsz]; cases bornB k <;> simp)
    omega
  have w1 : IntKind.i64.wrap (n + 1) = n + 1 := w64 (by omega) (by omega)
  refine ⟨_, _, _, cell_of im.p 0, _, cell_of im.p 1, _, cell_of im.p 2, _, cell_of im.p 3, _, cell_of im.p 4, _, cell_of im.p 5, _, cell_of im.p 6, _, cell_of im.p 7, _, cell_of im.p 8, _, _, _, cell_of im.p 9, ?_⟩
  refine via h77 ⟨s, r, a, rfl, hN, _, rfl, ?_⟩
  have hr := (room_ok (n := n) hG).1.num.1
  by_cases c : n + 1 > freeA a
  · rw [if_pos (by rw [w1]; simpa using c)]
    have e : roomA n a = collA a := if_pos c
    rw [e] at hQ hr
    refine ⟨_, _, _, cell_of im.p 0, _, cell_of im.p 1, _, cell_of im.p 2, _, cell_of im.p 3, _, cell_of im.p 4, _, cell_of im.p 5, _, cell_of im.p 6, _, cell_of im.p 7, _, cell_of im.p 8, _, _, _, cell_of im.p 9, ?_⟩
    refine via h78 ⟨s, r, a, D, rfl, im.w, hG, fun m1 o1 w1 => ⟨_, _, _, _, _, _, _, _, _, _, _, _, _, _, rfl, ?_⟩⟩
    have p1 : Ptr m1 g1 s r a := by unfold Ptr; rw [o1 g1 im.g]; exact im.p
    refine put_all p1 w1 im.g fun m2 o2 im2 => ?_
    have h32 : m2 g3 = some (.cells #[.slice none 0 0, .int .i64 0, .int .i64 0, .int .i64 0, .bool false, .int .i64 0, .int .i64 0, .int .i64 0, .int .i64 0, .slice none 0 0] 29 (0, 0)) := by rw [o2 g3 n31, o1 g3 d3]; exact h3
    exact (akP_ok t h79 h77 im2 ((hO.trans (Off.of_eq o1)).fresh z1 o2) z1 z3 d3 n31 h32 hsz hr hQ : akP (look t) Q k n g1 g3 m2)
  · rw [if_neg (by rw [w1]; simpa using c)]
    have e : roomA n a = a := if_neg c
    rw [e] at hQ
    exact (akP_ok t h79 h77 im hO z1 z3 d3 n31 h3 hsz hN hQ : akP (look t) Q k n g1 g3 M)
def s45 : Spec := fun args m Q => ∃ (s r : Sl) (a : Ar) (D : List Nat) (k n : Int), args = [vA s r a, .int .i64 k, .int .i64 n] ∧ Wo m s r a D ∧ OkC a ∧ sizeB k n = true ∧
  ∀ m', (∀ b, b ∉ D → m' b = m b) → Wo m' s r (askA k n a).1 D → Q (.tuple #[vA s r (askA k n a).1, .int .i64 (askA k n a).2.1, .int .i64 (askA k n a).2.2]) m'
set_option maxHeartbeats 1000000 in
theorem f45 (t : Tab) (h79 : look t 79 = s79) (h77 : look t 77 = s77) (h78 : look t 78 = s78) (h75 : look t 75 = s75) (h76 : look t 76 = s76) (h74 : look t 74 = s74) (h73 : look t 73 = s73) : ∀ args m Q, s45 args m Q → FA Tryz.prog (look t) kp45 Tryz.f45 args m Q := by
  rintro args m Q ⟨s, r, a, D, k, n, rfl, hW, hG, hsz, hQ⟩
  have bn : 1 ≤ n ∧ n ≤ 256 := by
    have := hd_b (k := k) (s := n) (z := if bornB k = true then 1 else 0) (by unfold hdOk; rw [hsz]; cases bornB k <;> simp)
    omega
  have hN := hG.num.1
  have sm := hN.sm
  have s0 := sm.s0
  have s1 := sm.s1
  have t0 := sm.t0
  have t1 := sm.t1
  have hl := sm.l
  have w1 : IntKind.i64.wrap (n + 1) = n + 1 := w64 (by omega) (by omega)
  have w2 : IntKind.i64.wrap (a.semi - 1) = a.semi - 1 := w64 (by omega) (by omega)
  show FA Tryz.prog (look t) kp45 Tryz.f45 [.agg #[.slice s.a s.n s.c, .int .i64 a.semi, .int .i64 a.to, .int .i64 a.top, .bool a.cyc, .int .i64 a.scan, .int .i64 a.old, .int .i64 a.cop, .int .i64 a.ser, .slice r.a r.n r.c], .int .i64 k, .int .i64 n] m Q
  rw [e45]
  refine newA_intro fun g1 m1 hg1 e1 hb1 hle1 => newA_intro fun g3 m2 hg3 e2 hb3 hle2 => ?_
  have l2 := Mem.le_trans hle1 hle2
  have p1 : m2 g1 = some (.cells (cA s r a) 29 (0, 0)) := hle2 _ _ hb1
  have im := hW.loc hg1 p1 l2
  have n31 : g3 ≠ g1 := Ne.symm (ne_of_none hg3 hb1)
  have z3 := le_none hle1 hg3
  have d3 := hW.fresh z3
  have hO : Off D m m2 := Off.of_le l2
  refine ⟨_, cell_of im.p 1, ?_⟩
  rw [w2]
  by_cases c : n + 1 > a.semi - 1
  · rw [if_pos (by rw [w1]; simpa using c)]
    have e : askA k n a = (a, 0, 2) := if_pos c
    rw [e] at hQ
    exact (akN_ok im hb3 z3 d3 hO hQ : akN Q g1 g3 m2)
  rw [if_neg (by rw [w1]; simpa using c)]
  have e : askA k n a = putA k n (roomA n (paceA a)) := if_neg c
  rw [e] at hQ
  obtain ⟨p1', p2⟩ := pace_ok hG
  have tail : ∀ (b : Ar) (M m4 : Mem), Im M g1 s r b D → Off D m M → M g3 = some (.cells #[.slice none 0 0, .int .i64 0, .int .i64 0, .int .i64 0, .bool false, .int .i64 0, .int .i64 0, .int .i64 0, .int .i64 0, .slice none 0 0] 29 (0, 0)) → (∀ q, q ∉ D → m4 q = M q) → ∀ (c : Ar), paceA a = c → Wo m4 s r c D → ∀ (K : Mem → Prop), (∀ m5, akR (look t) Q k n g1 g3 m5 → K m5) → stoA m4 ⟨g1, 0, none⟩ [.slice s.a s.n s.c, .int .i64 c.semi, .int .i64 c.to, .int .i64 c.top, .bool c.cyc, .int .i64 c.scan, .int .i64 c.old, .int .i64 c.cop, .int .i64 c.ser, .slice r.a r.n r.c] K := by
    intro b M m4 imb hOb h3b o4 c hc w4 K hK
    have p4 : Ptr m4 g1 s r b := by unfold Ptr; rw [o4 g1 imb.g]; exact imb.p
    refine put_all p4 w4 imb.g fun m5 o5 im5 => hK m5 ?_
    subst hc
    exact akR_ok t h79 h77 h78 im5 ((hOb.trans (Off.of_eq o4)).fresh hg1 o5) hg1 z3 d3 n31 (by rw [o5 g3 n31, o4 g3 d3]; exact h3b) hsz p1' hQ
  by_cases hc : a.cyc = true
  · have ep : paceA a = stepsA 2 (overA a) := if_pos hc
    refine ⟨Mem.le m2, Mem.le_refl _, _, held (cell_of im.p 4), ?_⟩
    rw [hc, if_neg (by decide)]
    refine ⟨_, cell_of im.p 4, ?_⟩
    rw [if_pos hc]
    refine ⟨_, _, _, cell_of im.p 0, _, cell_of im.p 1, _, cell_of im.p 2, _, cell_of im.p 3, _, cell_of im.p 4, _, cell_of im.p 5, _, cell_of im.p 6, _, cell_of im.p 7, _, cell_of im.p 8, _, _, _, cell_of im.p 9, ?_⟩
    refine via h76 ⟨s, r, a, D, rfl, im.w, fun m3 o3 w3 => ⟨_, _, _, _, _, _, _, _, _, _, _, _, _, _, rfl, ?_⟩⟩
    refine via h75 ⟨s, r, overA a, D, 2, rfl, w3, hG.over.1, by decide, by decide, fun m4 k4 o4 w4 => ⟨_, _, _, _, _, _, _, _, _, _, _, _, _, _, _, rfl, ?_⟩⟩
    exact tail a m2 m4 im hO hb3 (fun q hq => (o4 q hq).trans (o3 q hq)) _ ep w4 _ fun m5 h => h
  · have hcf : a.cyc = false := by simpa using hc
    refine ⟨Mem.le m2, Mem.le_refl _, _, held (cell_of im.p 4), ?_⟩
    rw [hcf, if_pos (by decide)]
    obtain ⟨T1, hI⟩ : ∃ T1, I0 a T1 := by
      rcases hG with h | ⟨T1, T2, h⟩
      · exact h
      · exact absurd h.c.cy hc
    have hh := halves hN
    have w3 : IntKind.i64.wrap (a.top - startA a a.to) = a.top - startA a a.to := w64 (by omega) (by omega)
    have w4 : IntKind.i64.wrap (2 * (a.top - startA a a.to)) = 2 * (a.top - startA a a.to) := w64 (by omega) (by omega)
    refine ⟨_, held (cell_of im.p 3), _, _, _, held (cell_of im.p 0), _, held (cell_of im.p 1), _, held (cell_of im.p 2), _, held (cell_of im.p 3), _, held (cell_of im.p 4), _, held (cell_of im.p 5), _, held (cell_of im.p 6), _, held (cell_of im.p 7), _, held (cell_of im.p 8), _, _, _, held (cell_of im.p 9), _, held (cell_of im.p 2), _, held (cell_of im.p 1), ?_⟩
    refine via h73 ⟨s, r, a, a.to, rfl, t0, t1, by omega, s1, _, rfl, Mem.le_refl _, ?_⟩
    rw [w3, w4, w2]
    by_cases hd : 2 * (a.top - startA a a.to) > a.semi - 1
    · have ep : paceA a = stepsA 2 (overA (flipA a)) := by unfold paceA; rw [if_neg hc, if_pos hd]
      rw [if_pos (by simpa using hd)]
      obtain ⟨g1', g2', g3'⟩ := flip_gd hI
      refine ⟨_, _, _, cell_of im.p 0, _, cell_of im.p 1, _, cell_of im.p 2, _, cell_of im.p 3, _, cell_of im.p 4, _, cell_of im.p 5, _, cell_of im.p 6, _, cell_of im.p 7, _, cell_of im.p 8, _, _, _, cell_of im.p 9, ?_⟩
      refine via h74 ⟨s, r, a, D, rfl, im.w, ⟨T1, hI⟩, fun m3 o3 w3' => ⟨_, _, _, _, _, _, _, _, _, _, _, _, _, _, rfl, ?_⟩⟩
      have p3 : Ptr m3 g1 s r a := by unfold Ptr; rw [o3 g1 im.g]; exact im.p
      refine put_all p3 w3' im.g fun m4 o4 im4 => ?_
      have hO4 : Off D m m4 := (hO.trans (Off.of_eq o3)).fresh hg1 o4
      have h34 : m4 g3 = some (.cells #[.slice none 0 0, .int .i64 0, .int .i64 0, .int .i64 0, .bool false, .int .i64 0, .int .i64 0, .int .i64 0, .int .i64 0, .slice none 0 0] 29 (0, 0)) := by rw [o4 g3 n31, o3 g3 d3]; exact hb3
      refine ⟨_, cell_of im4.p 4, ?_⟩
      cases hfc : (flipA a).cyc with
      | true =>
        rw [if_pos rfl]
        refine ⟨_, _, _, cell_of im4.p 0, _, cell_of im4.p 1, _, cell_of im4.p 2, _, cell_of im4.p 3, _, cell_of im4.p 4, _, cell_of im4.p 5, _, cell_of im4.p 6, _, cell_of im4.p 7, _, cell_of im4.p 8, _, _, _, cell_of im4.p 9, ?_⟩
        refine via h76 ⟨s, r, flipA a, D, rfl, im4.w, fun m5 o5 w5 => ⟨_, _, _, _, _, _, _, _, _, _, _, _, _, _, rfl, ?_⟩⟩
        refine via h75 ⟨s, r, overA (flipA a), D, 2, rfl, w5, g1'.okC.over.1, by decide, by decide, fun m6 k6 o6 w6 => ⟨_, _, _, _, _, _, _, _, _, _, _, _, _, _, _, rfl, ?_⟩⟩
        exact tail (flipA a) m4 m6 im4 hO4 h34 (fun q hq => (o6 q hq).trans (o5 q hq)) _ ep w6 _ fun m5 h => h
      | false =>
        rw [if_neg (by decide)]
        have e5 : paceA a = flipA a := by rw [ep, g1'.over]; exact steps_idle 2 hfc
        rw [e5] at hQ p1'
        exact (akR_ok t h79 h77 h78 im4 hO4 hg1 z3 d3 n31 h34 hsz p1' hQ : akR (look t) Q k n g1 g3 m4)
    · have ep : paceA a = a := by unfold paceA; rw [if_neg hc, if_neg hd]
      rw [if_neg (by simpa using hd)]
      refine ⟨_, cell_of im.p 4, ?_⟩
      rw [hcf, if_neg (by decide)]
      rw [ep] at hQ p1'
      exact (akR_ok t h79 h77 h78 im hO hg1 z3 d3 n31 hb3 hsz p1' hQ : akR (look t) Q k n g1 g3 m2)
end Go.Proofs.YtpdcjocjkbgddaaGreat.Abs
