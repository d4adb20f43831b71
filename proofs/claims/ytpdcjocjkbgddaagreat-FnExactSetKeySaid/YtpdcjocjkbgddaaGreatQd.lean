/- Texts of the claim, merged: rules, contracts and plain laws. No condition. -/
import Derived.Test.YtpdcjocjkbgddaaGreatQc
import Derived.KernelRfl
import Derived.Test.YtpdcjocjkbgddaaGreatQb
import Derived.Test.YtpdcjocjkbgddaaGreatQEqK
set_option linter.unusedVariables false
set_option linter.unusedSimpArgs false
set_option linter.unusedSectionVars false
set_option maxRecDepth 20000
set_option maxHeartbeats 2000000
namespace Go.Proofs.YtpdcjocjkbgddaaGreat.Abs
open Go.RowKit
def askT2 (call : FuncId → Spec) (Q : Value → Mem → Prop) (a0g : Nat) (a1 a2 : Int) (m9 : Mem) : Prop :=
 shN_16 call Q a0g m9 a2 a1
def askT1 (call : FuncId → Spec) (Q : Value → Mem → Prop) (a0g : Nat) (a1 a2 : Int) (m6 : Mem) : Prop :=
 shN_17 call Q a0g m6 a2 a1
def askT4 (call : FuncId → Spec) (Q : Value → Mem → Prop) (a0g g85 : Nat) (a2 : Int) (m89 : Mem) : Prop :=
 shN_15 call Q m89 a0g g85 a2
theorem hd_b {k s z : Int} (h : hdOk k s z = true) : 1 ≤ k ∧ k ≤ 6 ∧ 1 ≤ s ∧ s ≤ 256 ∧ 0 ≤ z ∧ z ≤ 1000000000 := by
 unfold hdOk at h
 rw [Bool.and_eq_true] at h
 obtain ⟨h1, h2⟩ := h
 have hk := kinds h1
 have : 1 ≤ s ∧ s ≤ 256 := by
   unfold sizeB at h1
   repeat' split at h1
   all_goals first | (cases h1; done) | (simp only [decide_eq_true_eq] at h1; omega)
 have hz : 0 ≤ z ∧ z ≤ 1000000000 := by
   split at h2
   · simp only [decide_eq_true_eq] at h2; omega
   · simp only [decide_eq_true_eq] at h2; omega
 omega
theorem packH_v {k s z : Int} (h : hdOk k s z = true) : packH k s z = k + s * 16 + z * 1048576 := by
 have b := hd_b h
 unfold packH
 rw [u64w (x := s) (by omega) (by omega), u64w (x := k) (by omega) (by omega), u64w (x := z) (by omega) (by omega), u64w (x := s * 16) (by omega) (by omega), u64w (x := z * 1048576) (by omega) (by omega), u64w (x := k + s * 16) (by omega) (by omega), u64w (by omega) (by omega)]
def s115 : Spec := fun args m Q => ∃ k s z : Int, args = [.agg #[.int .i64 k, .int .i64 s, .int .i64 z]] ∧ hdOk k s z = true ∧ Q (.tuple #[.int .u64 (packH k s z), .bool true]) m
theorem f115 (t : Tab) (h130 : look t 130 = s130) : ∀ args m Q, s115 args m Q → FA Tryz.prog (look t) kp115 Tryz.f115 args m Q := by
 rintro args m Q ⟨k, s, z, rfl, hk, hQ⟩
 have b := hd_b hk
 rw [e115]
 refine newA_intro fun g1 m2 hg1 e2 hb1 hle2 => ⟨_, cell_of hb1 0, _, cell_of hb1 1, _, cell_of hb1 2, via h130 ⟨k, s, z, rfl, by omega, _, rfl, ?_⟩⟩
 rw [hk, if_neg (by simp)]
 refine ⟨_, cell_of hb1 0, _, cell_of hb1 1, _, cell_of hb1 2, by decide, ?_⟩
 have e20 : (2 : Int) ^ min ((20 : Int).toNat) (IntKind.bits .i64) = 1048576 := by decide
 have e : IntKind.u64.wrap (IntKind.i64.wrap (IntKind.i64.wrap (k + IntKind.i64.wrap (16 * s)) + IntKind.i64.wrap (z * 2 ^ min ((20 : Int).toNat) (IntKind.bits .i64)))) = packH k s z := by
   rw [packH_v hk, e20, w64 (x := 16 * s) (by omega) (by omega), w64 (x := k + 16 * s) (by omega) (by omega), w64 (x := z * 1048576) (by omega) (by omega), w64 (by omega) (by omega), u64w (by omega) (by omega)]
   omega
 refine ret_intro hle2 ?_
 rw [← e] at hQ
 exact hQ
theorem clrA_w {m : Mem} {base : Addr} {n c : Nat} {K : Value → Mem → Prop} (h : stoA m base (flat Enc.e (List.replicate (n + 1) (⟨0⟩ : U64))) fun m' => K (.tuple #[]) m') : clrA Tryz.prog #[22] (.slice (some base) (n + 1) c) K m := by
 have e : clrA Tryz.prog #[22] (.slice (some base) (n + 1) c) K m = stoA m base (Builtin.zeroCells #[.int .u64 0] (n + 1)).toList fun m' => K (.tuple #[]) m' := by kernel_rfl
 have z : (Builtin.zeroCells #[.int .u64 0] (n + 1)).toList = flat Enc.e (List.replicate (n + 1) (⟨0⟩ : U64)) := by
   have := zeroRow_eq (⟨0⟩ : U64) (n + 1)
   have h2 : Builtin.zeroCells #[.int .u64 0] (n + 1) = zeroRow (Enc.e (⟨0⟩ : U64)).toArray ((n + 1) * Enc.s U64) := rfl
   rw [h2, this]
 rw [e, z]
 exact h
def putW (k n z : Int) (a : Ar) : Ar := { a with ws := clrW (setW a.ws a.top (packH k n z)) (a.top + 1) n.toNat, top := a.top + (n + 1) }
theorem askT4_ok (t : Tab) (h115 : look t 115 = s115) {Q : Value → Mem → Prop} {g g6 : Nat} {s r : Sl} {a : Ar} {D : List Nat} {M m0 : Mem} {k n z : Int} (im : Im M g s r a D) (hO : Off (g :: D) m0 M) (hg6 : g6 ∉ g :: D) (hh : M g6 = some (.cells #[.int .i64 k, .int .i64 n, .int .i64 z] 72 (0, 0)))
   (hok : hdOk k n z = true) (t0 : 0 ≤ a.top) (t1 : a.top + n + 1 ≤ a.ws.length) (t2 : a.ws.length ≤ 2 ^ 20)
   (hK : ∀ M', Off (g :: D) m0 M' → Im M' g s r (putW k n z a) D → ret Q (.tuple #[.int .i64 a.top, .int .i64 0]) M') : askT4 (look t) Q g g6 n M := by
 have b := hd_b hok
 have hAt := im.w.at
 have hsn := hAt.n
 have hsc := hAt.c
 unfold askT4
 refine ⟨_, cell_of im.p 3, fun q => q g = M g ∧ q g6 = M g6, ⟨rfl, rfl⟩, _, _, _, fun q hq => cell_of (hq.1.trans im.p) 0, _, fun q hq => cell_of (hq.2.trans hh) 0, _, fun q hq => cell_of (hq.2.trans hh) 1, _, fun q hq => cell_of (hq.2.trans hh) 2, ?_⟩
 refine via h115 ⟨k, n, z, rfl, hok, _, _, rfl, ⟨rfl, rfl⟩, ?_⟩
 refine im.put_w t0 (by omega) fun m1 o1 im1 => ⟨⟨o1 g im.g, o1 g6 fun h => hg6 (by simp [h])⟩, _, _, _, cell_of im1.p 0, ?_⟩
 have w1 : IntKind.i64.wrap (n + 1) = n + 1 := w64 (by omega) (by omega)
 have w2 : IntKind.i64.wrap (a.top + (n + 1)) = a.top + (n + 1) := w64 (by omega) (by omega)
 have w3 : IntKind.i64.wrap (a.top + 1) = a.top + 1 := w64 (by omega) (by omega)
 rw [w1, w2, w3]
 refine ⟨by omega, by omega, by omega, by omega, ?_⟩
 rw [if_neg (by omega)]
 have el : (a.top + (n + 1)).toNat - (a.top + 1).toNat = (n.toNat - 1) + 1 := by omega
 rw [el]
 obtain ⟨d, hd⟩ := im1.w.base (by show 0 < (setW a.ws _ _).length; rw [setW_len]; omega)
 rw [hd]
 refine clrA_w ?_
 have hrl : (List.replicate ((n.toNat - 1) + 1) (⟨0⟩ : U64)).length = n.toNat := by rw [List.length_replicate]; omega
 refine im1.w.mid hd (q := a.top + 1) (ws' := clrW (setW a.ws a.top (packH k n z)) (a.top + 1) n.toNat) (by omega) (by rw [hrl]; show _ ≤ ((setW a.ws _ _).length : Int); rw [setW_len]; omega) (by rw [hrl]; omega) (by rw [clrW_len]) (fun j j0 j1 => ?_) (fun m2 o2 w2' => ?_)
 · rw [hrl, gw_clr (by omega) _ (by rw [setW_len]; omega) j j0]
   by_cases c : a.top + 1 ≤ j ∧ j < a.top + 1 + n.toNat
   · rw [if_pos c, if_pos c]
     unfold gw
     simp only [List.getD_eq_getElem?_getD]
     rw [List.getElem?_replicate, if_pos (by omega)]
     rfl
   · rw [if_neg c, if_neg c]
 · have im2 : Im m2 g s r { a with ws := clrW (setW a.ws a.top (packH k n z)) (a.top + 1) n.toNat } D := ⟨by unfold Ptr; rw [o2 g im.g]; exact im1.p, w2', im.g⟩
   refine ⟨_, cell_of im2.p 3, ?_⟩
   show stoA m2 ⟨g, 3, none⟩ [.int .i64 (IntKind.i64.wrap (a.top + (n + 1)))] _
   rw [w2]
   refine im2.fld 3 _ (putW k n z a) rfl (by decide) rfl rfl rfl fun m3 o3 im3 => hK m3 (((hO.trans (Off.of_eq fun q hq => o1 q fun h => hq (by simp [h]))).trans (Off.of_eq fun q hq => o2 q fun h => hq (by simp [h]))).put (by simp) o3) im3
def putA (k n : Int) (a : Ar) : Ar × Int × Int :=
 if n + 1 > freeA a then (a, 0, 2)
 else (if bornB k = true then { putW k n a.ser a with ser := a.ser + 1 } else putW k n 0 a, a.top, 0)
theorem free_le {a : Ar} (hN : NumP a) : freeA a ≤ endA a a.to - a.top ∧ endA a a.to ≤ a.ws.length ∧ 1 ≤ a.top ∧ -16000 ≤ freeA a := by
 have hh := halves hN
 have hf := hN.f
 have sm := hN.sm
 have s1 := sm.s1
 have hl := sm.l
 unfold freeP at hf
 unfold freeA leftA
 split
 · rename_i hc
   rw [if_pos hc] at hf
   omega
 · omega
theorem askT2_ok (t : Tab) (h115 : look t 115 = s115) (h114 : look t 114 = s114) (h112 : look t 112 = s112) {Q : Value → Mem → Prop} {g : Nat} {s r : Sl} {a : Ar} {D : List Nat} {M m0 : Mem} {k n : Int} (im : Im M g s r a D) (hO : Off (g :: D) m0 M)
   (hsz : sizeB k n = true) (hN : NumP a) (hK : ∀ M', Off (g :: D) m0 M' → Im M' g s r (putA k n a).1 D → ret Q (.tuple #[.int .i64 (putA k n a).2.1, .int .i64 (putA k n a).2.2]) M') : askT2 (look t) Q g k n M := by
 unfold askT2
 have hfl := free_le hN
 have sm := hN.sm
 have s1 := sm.s1
 have hl := sm.l
 have hz0 := hN.z0
 have hz1 := hN.z1
 have hok : hdOk k n (if bornB k = true then a.ser else 0) = true := by
   unfold hdOk
   rw [hsz]
   cases bornB k with
   | true => simp; omega
   | false => simp
 have b := hd_b hok
 have w1 : IntKind.i64.wrap (n + 1) = n + 1 := w64 (by omega) (by omega)
 refine via h112 ⟨g, s, r, a, rfl, im.p, hN, _, rfl, ?_⟩
 by_cases c : n + 1 > freeA a
 · rw [if_pos (by rw [w1]; simpa using c)]
   have e : putA k n a = (a, 0, 2) := if_pos c
   rw [e] at hK
   exact hK M hO im
 rw [if_neg (by rw [w1]; simpa using c)]
 have e : putA k n a = (if bornB k = true then { putW k n a.ser a with ser := a.ser + 1 } else putW k n 0 a, a.top, 0) := if_neg c
 rw [e] at hK
 refine newA_intro fun g6 m2 hg6 e2 hb2 hle2 => sto (c := #[.int .i64 0, .int .i64 0, .int .i64 0]) (t := 72) hb2 rfl (by simp) fun m3 e3 h3 ne3 => via h114 ⟨k, rfl, _, rfl, ?_⟩
 have h3 : m3 g6 = some (.cells #[.int .i64 k, .int .i64 n, .int .i64 0] 72 (0, 0)) := h3
 have n6 := im.fresh hg6
 have le3 : Mem.le M m3 := le_other hle2 hg6 ne3
 have im3 := im.le le3
 have hO3 : Off (g :: D) m0 m3 := hO.trans (Off.of_le le3)
 have hg60 : m0 g6 = none := by
   cases h : m0 g6 with
   | none => rfl
   | some o => have := hO g6 o n6 h; rw [hg6] at this; cases this
 cases hb : bornB k with
 | false =>
   rw [hb] at hok hK
   rw [if_neg (by simp)]
   exact askT4_ok t h115 im3 hO3 n6 h3 hok (by omega) (by omega) (by omega) hK
 | true =>
   rw [hb] at hok hK
   rw [if_pos rfl]
   refine ⟨_, cell_of im3.p 8, sto (c := #[.int .i64 k, .int .i64 n, .int .i64 0]) (t := 72) h3 rfl (by simp) fun m4 e4 h4 ne4 => ?_⟩
   have h4 : m4 g6 = some (.cells #[.int .i64 k, .int .i64 n, .int .i64 a.ser] 72 (0, 0)) := h4
   have im4 := im3.ext (m' := m4) fun q hq => ne4 q fun h => n6 (h ▸ hq)
   refine ⟨_, cell_of im4.p 8, ?_⟩
   rw [w64 (x := a.ser + 1) (by omega) (by omega)]
   refine im4.fld 8 _ { a with ser := a.ser + 1 } rfl (by decide) rfl rfl rfl fun m5 o5 im5 => ?_
   have h5 : m5 g6 = some (.cells #[.int .i64 k, .int .i64 n, .int .i64 a.ser] 72 (0, 0)) := by rw [o5 g6 fun h => n6 (by simp [h])]; exact h4
   exact askT4_ok t h115 im5 ((hO3.fresh hg60 ne4).put (by simp) o5) n6 h5 hok (by show 0 ≤ a.top; omega) (by show a.top + n + 1 ≤ a.ws.length; omega) (by show a.ws.length ≤ _; omega) hK
def roomA (n : Int) (a : Ar) : Ar := if n + 1 > freeA a then collA a else a
theorem room_ok {n : Int} {a : Ar} (h : OkC a) : OkC (roomA n a) ∧ Sz a (roomA n a) := by
 unfold roomA
 split
 · obtain ⟨⟨T1, f1⟩, f2, f3, f4⟩ := h.fin
   obtain ⟨g1, g2, g3⟩ := flip_gd f1
   obtain ⟨k1, k2, k3, k4⟩ := fin_gd g1
   exact ⟨.inl k1, f2.trans (g2.trans k2)⟩
 · exact ⟨h, Sz.refl a⟩
theorem askT1_ok (t : Tab) (h115 : look t 115 = s115) (h114 : look t 114 = s114) (h112 : look t 112 = s112) (h113 : look t 113 = s113) {Q : Value → Mem → Prop} {g : Nat} {s r : Sl} {a : Ar} {D : List Nat} {M m0 : Mem} {k n : Int} (im : Im M g s r a D) (hO : Off (g :: D) m0 M)
   (hsz : sizeB k n = true) (hG : OkC a) (hK : ∀ M', Off (g :: D) m0 M' → Im M' g s r (putA k n (roomA n a)).1 D → ret Q (.tuple #[.int .i64 (putA k n (roomA n a)).2.1, .int .i64 (putA k n (roomA n a)).2.2]) M') : askT1 (look t) Q g k n M := by
 unfold askT1
 have hN := hG.num.1
 have hfl := free_le hN
 have sm := hN.sm
 have s1 := sm.s1
 have hl := sm.l
 have bn : 1 ≤ n ∧ n ≤ 256 := by
   have := hd_b (k := k) (s := n) (z := if bornB k = true then 1 else 0) (by unfold hdOk; rw [hsz]; cases bornB k <;> simp)
   omega
 have w1 : IntKind.i64.wrap (n + 1) = n + 1 := w64 (by omega) (by omega)
 refine via h112 ⟨g, s, r, a, rfl, im.p, hN, _, rfl, ?_⟩
 have hr := (room_ok (n := n) hG).1.num.1
 by_cases c : n + 1 > freeA a
 · rw [if_pos (by rw [w1]; simpa using c)]
   have e : roomA n a = collA a := if_pos c
   rw [e] at hK hr
   refine via h113 ⟨g, s, r, a, D, rfl, im, hG, fun m1 o1 im1 => ⟨rfl, ?_⟩⟩
   exact askT2_ok t h115 h114 h112 im1 (hO.trans (Off.of_eq o1)) hsz hr hK
 · rw [if_neg (by rw [w1]; simpa using c)]
   have e : roomA n a = a := if_neg c
   rw [e] at hK
   exact askT2_ok t h115 h114 h112 im hO hsz hN hK
def paceA (a : Ar) : Ar :=
 if a.cyc = true then stepsA 2 (overA a) else if 2 * (a.top - startA a a.to) > a.semi - 1 then stepsA 2 (overA (flipA a)) else a
def askA (k n : Int) (a : Ar) : Ar × Int × Int := if n + 1 > a.semi - 1 then (a, 0, 2) else putA k n (roomA n (paceA a))
theorem pace_ok {a : Ar} (h : OkC a) : OkC (paceA a) ∧ Sz a (paceA a) := by
 unfold paceA
 by_cases c : a.cyc = true
 · rw [if_pos c]
   obtain ⟨h1, h2, h3⟩ := h.over
   obtain ⟨k1, k2, k3, k4⟩ := steps_gd 2 _ h1
   exact ⟨k1.okC, h2.trans k2⟩
 · rw [if_neg c]
   split
   · rcases h with ⟨T1, h⟩ | ⟨T1, T2, h⟩
     · obtain ⟨g1, g2, g3⟩ := flip_gd h
       rw [g1.over]
       obtain ⟨k1, k2, k3, k4⟩ := steps_gd 2 _ g1
       exact ⟨k1.okC, g2.trans k2⟩
     · exact absurd h.c.cy c
   · exact ⟨h, Sz.refl a⟩
def s69 : Spec := fun args m Q => ∃ (g : Nat) (s r : Sl) (a : Ar) (D : List Nat) (k n : Int), args = [.pointer (some ⟨g, 0, none⟩), .int .i64 k, .int .i64 n] ∧ Im m g s r a D ∧ OkC a ∧ sizeB k n = true ∧
 ∀ m', (∀ b, b ∉ g :: D → m' b = m b) → Im m' g s r (askA k n a).1 D → Q (.tuple #[.int .i64 (askA k n a).2.1, .int .i64 (askA k n a).2.2]) m'
set_option maxHeartbeats 1000000 in
theorem f69 (t : Tab) (h115 : look t 115 = s115) (h114 : look t 114 = s114) (h112 : look t 112 = s112) (h113 : look t 113 = s113) (h110 : look t 110 = s110) (h111 : look t 111 = s111) (h63 : look t 63 = s63) : ∀ args m Q, s69 args m Q → FA Tryz.prog (look t) kp69 Tryz.f69 args m Q := by
 rintro args m Q ⟨g, s, r, a, D, k, n, rfl, im, hG, hsz, hQ⟩
 have bn : 1 ≤ n ∧ n ≤ 256 := by
   have := hd_b (k := k) (s := n) (z := if bornB k = true then 1 else 0) (by unfold hdOk; rw [hsz]; cases bornB k <;> simp)
   omega
 have hN := hG.num.1
 have sm := hN.sm
 have s0 := sm.s0
 have s1 := sm.s1
 have t0 := sm.t0
 have t1 := sm.t1
 have hl := sm.l
 have w1 : IntKind.i64.wrap (n + 1) = n + 1 := w64 (by omega) (by omega)
 have w2 : IntKind.i64.wrap (a.semi - 1) = a.semi - 1 := w64 (by omega) (by omega)
 rw [e69]
 refine ⟨_, cell_of im.p 1, ?_⟩
 rw [w2]
 by_cases c : n + 1 > a.semi - 1
 · rw [if_pos (by rw [w1]; simpa using c)]
   have e : askA k n a = (a, 0, 2) := if_pos c
   rw [e] at hQ
   exact ret_intro (Mem.le_refl _) (hQ m (fun _ _ => rfl) im)
 rw [if_neg (by rw [w1]; simpa using c)]
 have e : askA k n a = putA k n (roomA n (paceA a)) := if_neg c
 rw [e] at hQ
 have fin : ∀ M' : Mem, Off (g :: D) m M' → Im M' g s r (putA k n (roomA n (paceA a))).1 D → ret Q (.tuple #[.int .i64 (putA k n (roomA n (paceA a))).2.1, .int .i64 (putA k n (roomA n (paceA a))).2.2]) M' := fun M' hO' im' => ret_off hO' (hQ _ (fun b hb => mix_off hb) im'.mix)
 obtain ⟨p1, p2⟩ := pace_ok hG
 refine ⟨_, cell_of im.p 4, ?_⟩
 by_cases hc : a.cyc = true
 · have ep : paceA a = stepsA 2 (overA a) := if_pos hc
   rw [ep] at p1 fin
   rw [if_pos hc]
   refine via h110 ⟨g, s, r, a, D, 2, rfl, im, hG, by decide, by decide, fun m1 j o1 im1 => ⟨_, rfl, ?_⟩⟩
   exact askT1_ok t h115 h114 h112 h113 im1 (Off.of_eq o1) hsz p1 fin
 · rw [if_neg hc]
   obtain ⟨T1, hI⟩ : ∃ T1, I0 a T1 := by
     rcases hG with h | ⟨T1, T2, h⟩
     · exact h
     · exact absurd h.c.cy hc
   have hh := halves hN
   have w3 : IntKind.i64.wrap (a.top - startA a a.to) = a.top - startA a a.to := w64 (by omega) (by omega)
   have w4 : IntKind.i64.wrap (2 * (a.top - startA a a.to)) = 2 * (a.top - startA a a.to) := w64 (by omega) (by omega)
   refine ⟨Mem.le m, Mem.le_refl _, _, held (cell_of im.p 3), _, held (cell_of im.p 2), _, held (cell_of im.p 1), via h63 ⟨g, s, r, a, a.to, rfl, im.p, t0, t1, by omega, s1, _, rfl, Mem.le_refl _, ?_⟩⟩
   rw [w3, w4, w2]
   by_cases hd : 2 * (a.top - startA a a.to) > a.semi - 1
   · have ep : paceA a = stepsA 2 (overA (flipA a)) := by unfold paceA; rw [if_neg hc, if_pos hd]
     rw [ep] at p1 fin
     rw [if_pos (by simpa using hd)]
     obtain ⟨g1, g2, g3⟩ := flip_gd hI
     refine via h111 ⟨g, s, r, a, D, rfl, im, ⟨T1, hI⟩, fun m1 o1 im1 => ⟨rfl, via h110 ⟨g, s, r, _, D, 2, rfl, im1, g1.okC, by decide, by decide, fun m2 j o2 im2 => ⟨_, rfl, ?_⟩⟩⟩⟩
     exact askT1_ok t h115 h114 h112 h113 im2 ((Off.of_eq o1).trans (Off.of_eq o2)) hsz p1 fin
   · have ep : paceA a = a := by unfold paceA; rw [if_neg hc, if_neg hd]
     rw [ep] at p1 fin
     rw [if_neg (by simpa using hd)]
     exact askT1_ok t h115 h114 h112 h113 im (Off.refl _ _) hsz p1 fin
def fwdT (Q : Value → Mem → Prop) (x2g x3g x4g x5g : Nat) (m279 : Mem) : Prop :=
 shN_0 (fun _ _ _ _ => True) Q m279 x2g x3g x4g x5g
theorem Wo.loc {m m2 : Mem} {s r : Sl} {a : Ar} {D : List Nat} {g : Nat} (h : Wo m s r a D) (hg : m g = none) (hb : m2 g = some (.cells (cA s r a) 29 (0, 0))) (hl : Mem.le m m2) : Im m2 g s r a D :=
 ⟨hb, h.ext fun b hb => by obtain ⟨o, ho⟩ := h.live b hb; rw [ho, hl b o ho], h.fresh hg⟩
theorem Wo.mix {m M : Mem} {s r : Sl} {a : Ar} {D : List Nat} (h : Wo M s r a D) : Wo (mixM D m M) s r a D := h.ext fun b hb => mix_in hb
theorem fwdT_ok {Q : Value → Mem → Prop} {g1 g3 g5 g7 : Nat} {s r : Sl} {b : Ar} {D : List Nat} {M m0 : Mem} {v : Vl} (im : Im M g1 s r b D) (h3 : M g3 = some (.cells #[.int .i64 v.1, .int .i64 v.2] 58 (0, 0)))
   (h5 : M g5 = some (.cells zAr 29 (0, 0))) (h7 : M g7 = some (.cells #[.int .i64 0, .int .i64 0] 58 (0, 0))) (n15 : g1 ≠ g5) (n35 : g3 ≠ g5) (n57 : g5 ≠ g7) (z5 : m0 g5 = none) (z7 : m0 g7 = none) (d5 : g5 ∉ D) (d7 : g7 ∉ D)
   (hO : Off D m0 M) (hQ : ∀ m', (∀ b, b ∉ D → m' b = m0 b) → Wo m' s r b D → Q (.tuple #[vA s r b, vVl v]) m') : fwdT Q g1 g3 g5 g7 M := by
 unfold fwdT
 obtain ⟨wa, wn, wc⟩ := s
 obtain ⟨ra, rn, rc⟩ := r
 refine ⟨fun q => q g1 = M g1 ∧ q g3 = M g3, ⟨rfl, rfl⟩, _, _, _, fun q hq => cell_of (hq.1.trans im.p) 0, _, fun q hq => cell_of (hq.1.trans im.p) 1, _, fun q hq => cell_of (hq.1.trans im.p) 2, _, fun q hq => cell_of (hq.1.trans im.p) 3, _, fun q hq => cell_of (hq.1.trans im.p) 4, _, fun q hq => cell_of (hq.1.trans im.p) 5, _, fun q hq => cell_of (hq.1.trans im.p) 6, _, fun q hq => cell_of (hq.1.trans im.p) 7, _, fun q hq => cell_of (hq.1.trans im.p) 8, _, _, _, fun q hq => cell_of (hq.1.trans im.p) 9, _, fun q hq => cell_of (hq.2.trans h3) 0, _, fun q hq => cell_of (hq.2.trans h3) 1, ?_⟩
 refine sto_ar h5 fun m1 e1 q1 ne1 => ⟨⟨ne1 g1 n15, ne1 g3 n35⟩, ?_⟩
 refine sto (c := #[.int .i64 0, .int .i64 0]) (t := 58) ((ne1 g7 (Ne.symm n57)).trans h7) rfl (by simp) fun m2 e2 q2 ne2 => ?_
 have q2 : m2 g7 = some (.cells #[.int .i64 v.1, .int .i64 v.2] 58 (0, 0)) := q2
 have p5 : Ptr m2 g5 ⟨wa, wn, wc⟩ ⟨ra, rn, rc⟩ b := by unfold Ptr; rw [ne2 g5 n57]; exact q1
 refine ⟨_, _, _, cell_of p5 0, _, cell_of p5 1, _, cell_of p5 2, _, cell_of p5 3, _, cell_of p5 4, _, cell_of p5 5, _, cell_of p5 6, _, cell_of p5 7, _, cell_of p5 8, _, _, _, cell_of p5 9, _, cell_of q2 0, _, cell_of q2 1, ?_⟩
 refine ret_off ((hO.fresh z5 ne1).fresh z7 ne2) (hQ _ (fun b hb => mix_off hb) (Wo.mix (im.w.ext fun q hq => ?_)))
 rw [ne2 q (fun e => d7 (e ▸ hq)), ne1 q (fun e => d5 (e ▸ hq))]
theorem fwdL_ok (t : Tab) {Q : Value → Mem → Prop} {g1 g3 g5 g7 : Nat} {s r : Sl} {a : Ar} {D : List Nat} {m0 : Mem} {v : Vl} {T1 T2 : List Int} (hC : C0 a T1 T2) (hp : v.2 ∈ T2) (hok : okW (gw a.ws v.2) = true)
   (n13 : g1 ≠ g3) (n15 : g1 ≠ g5) (n17 : g1 ≠ g7) (n35 : g3 ≠ g5) (n37 : g3 ≠ g7) (n57 : g5 ≠ g7) (z1 : m0 g1 = none) (z3 : m0 g3 = none) (z5 : m0 g5 = none) (z7 : m0 g7 = none) (d3 : g3 ∉ D) (d5 : g5 ∉ D) (d7 : g7 ∉ D)
   (hQ : ∀ m', (∀ b, b ∉ D → m' b = m0 b) → Wo m' s r (fwdW a v.2) D → Q (.tuple #[vA s r (fwdW a v.2), vVl (v.1, a.top)]) m') :
   ∀ (d i : Nat), i + d = (szW a.ws v.2 + 1).toNat → ∀ (M : Mem), Im M g1 s r { a with ws := copyW a.ws a.top v.2 i } D → Off D m0 M → M g3 = some (.cells #[.int .i64 v.1, .int .i64 v.2] 58 (0, 0)) →
     M g5 = some (.cells zAr 29 (0, 0)) → M g7 = some (.cells #[.int .i64 0, .int .i64 0] 58 (0, 0)) → L116_8 (look t) (d + 1) Q g1 g3 g5 g7 a.top (szW a.ws v.2 + 1) (i : Int) M := by
 have nm := hC.nums
 have hs1 := hC.N.sm.s1
 have hl := hC.N.sm.l
 have i2 := hC.in2 hp
 have bz := szW_0 hC.wf.w v.2
 have hm := sumC_mem hC.wf.w hp hok
 have hs2 := hC.s2
 have ez : szC a.ws v.2 = szW a.ws v.2 := if_pos hok
 intro d
 induction d with
 | zero =>
   intro i hi M im hO h3 h5 h7
   rw [l116_8]
   refine ⟨M, Mem.le_refl _, ?_⟩
   rw [if_neg (by simp; omega)]
   have hi : i = (szW a.ws v.2 + 1).toNat := by omega
   subst hi
   refine ⟨_, _, _, cell_of im.p 0, _, cell_of h3 1, ?_⟩
   refine im.put_w (by omega) (by show v.2 < (copyW a.ws a.top v.2 _).length; rw [copyW_len]; omega) fun m1 o1 im1 => ?_
   rw [or_top (t := a.top) (by omega) (by omega)] at im1
   refine ⟨_, cell_of im1.p 3, ?_⟩
   show stoA m1 ⟨g1, 3, none⟩ [.int .i64 (IntKind.i64.wrap (a.top + (szW a.ws v.2 + 1)))] _
   rw [w64 (x := a.top + (szW a.ws v.2 + 1)) (by omega) (by omega)]
   refine im1.fld 3 _ { a with ws := setW (copyW a.ws a.top v.2 (szW a.ws v.2 + 1).toNat) v.2 (9223372036854775808 + a.top), top := a.top + (szW a.ws v.2 + 1) } rfl (by decide) rfl rfl rfl fun m2 o2 im2 => ⟨_, cell_of im2.p 7, ?_⟩
   show stoA m2 ⟨g1, 7, none⟩ [.int .i64 (IntKind.i64.wrap (a.cop + (szW a.ws v.2 + 1)))] _
   rw [w64 (x := a.cop + (szW a.ws v.2 + 1)) (by omega) (by omega)]
   refine im2.fld 7 _ (fwdW a v.2) rfl (by decide) rfl rfl rfl fun m3 o3 im3 => ?_
   have e3 : ∀ b, b ≠ g1 → b ∉ D → m3 b = M b := fun b hb hd => by rw [o3 b hb, o2 b hb, o1 b hd]
   refine sto (c := #[.int .i64 v.1, .int .i64 v.2]) (t := 58) ((e3 g3 (Ne.symm n13) d3).trans h3) rfl (by simp) fun m4 e4 h4 ne4 => ?_
   have h4 : m4 g3 = some (.cells #[.int .i64 v.1, .int .i64 a.top] 58 (0, 0)) := h4
   have im4 := im3.ext (m' := m4) fun q hq => ne4 q fun e => by
     rcases List.mem_cons.1 hq with h | h
     · exact n13 (h.symm.trans e)
     · exact d3 (e ▸ h)
   refine fwdT_ok (v := (v.1, a.top)) im4 h4 (by rw [ne4 g5 (Ne.symm n35), e3 g5 (Ne.symm n15) d5]; exact h5) (by rw [ne4 g7 (Ne.symm n37), e3 g7 (Ne.symm n17) d7]; exact h7) n15 n35 n57 z5 z7 d5 d7 ?_ hQ
   exact ((((hO.trans (Off.of_eq o1)).fresh z1 o2).fresh z1 o3).fresh z3 ne4)
 | succ d ih =>
   intro i hi M im hO h3 h5 h7
   rw [l116_8]
   refine ⟨M, Mem.le_refl _, ?_⟩
   rw [if_pos (by simp; omega)]
   have hAt := im.w.at
   have hsn := hAt.n
   have hlen : (copyW a.ws a.top v.2 i).length = a.ws.length := copyW_len _ _ _ _
   have hsn : (copyW a.ws a.top v.2 i).length = s.n := hsn
   have w1 : IntKind.i64.wrap (v.2 + (i : Int)) = v.2 + i := w64 (by omega) (by omega)
   have w2 : IntKind.i64.wrap (a.top + (i : Int)) = a.top + i := w64 (by omega) (by omega)
   refine ⟨Mem.le M, Mem.le_refl _, _, _, _, held (cell_of im.p 0), _, _, _, held (cell_of im.p 0), _, held (cell_of h3 1), ?_⟩
   rw [w1, w2]
   refine wd hAt.w hAt.n (by omega) (by omega) fun ad had hd => ⟨_, hd, ?_⟩
   refine im.put_w (by omega) (by show a.top + i < (copyW a.ws a.top v.2 i).length; omega) fun m1 o1 im1 => ?_
   have ew : IntKind.i64.wrap ((i : Int) + 1) = ((i + 1 : Nat) : Int) := wsucc (n := i + 1) (by omega) (by omega)
   rw [ew]
   exact ih (i + 1) (by omega) m1 im1 (hO.trans (Off.of_eq o1)) (by rw [o1 g3 d3]; exact h3) (by rw [o1 g5 d5]; exact h5) (by rw [o1 g7 d7]; exact h7)
def s116 : Spec := fun args m Q => ∃ (s r : Sl) (a : Ar) (D : List Nat) (v : Vl), args = [vA s r a, vVl v] ∧ Wo m s r a D ∧ RefIn a v ∧
 ∀ m', (∀ b, b ∉ D → m' b = m b) → Wo m' s r (fwdA a v).1 D → Q (.tuple #[vA s r (fwdA a v).1, vVl (fwdA a v).2]) m'
theorem half_of {a : Ar} {h p : Int} (s0 : 256 ≤ a.semi) (h0 : 0 ≤ h) (h1 : h ≤ 1) (p0 : startA a h ≤ p) (p1 : p < endA a h) : Int.tdiv p a.semi = h := by
 rw [startA_eq h0 h1] at p0
 rw [endA_eq h0 h1] at p1
 have : h = 0 ∨ h = 1 := by omega
 rcases this with rfl | rfl
 · rw [if_pos rfl] at p0 p1
   rw [Int.tdiv_eq_ediv_of_nonneg (by omega)]
   exact Int.ediv_eq_zero_of_lt (by omega) p1
 · rw [if_neg (by decide)] at p0 p1
   rw [Int.tdiv_eq_ediv_of_nonneg (by omega)]
   refine Int.le_antisymm ?_ ?_
   · exact Int.le_of_lt_add_one (Int.ediv_lt_of_lt_mul (by omega) (by omega))
   · exact Int.le_ediv_of_mul_le (by omega) (by omega)
theorem f116 (t : Tab) (h100 : look t 100 = s100) (h92 : look t 92 = s92) (h56 : look t 56 = s56) : ∀ args m Q, s116 args m Q → FA Tryz.prog (look t) kp116 Tryz.f116 args m Q := by
 rintro args m Q ⟨s, r, a, D, v, rfl, hW, ⟨T1, T2, hC, hv, hin⟩, hQ⟩
 show FA Tryz.prog (look t) kp116 Tryz.f116 [aG s r a, .agg #[.int .i64 v.1, .int .i64 v.2]] m Q
 rw [e116]
 have nm := hC.nums
 have hs0 := hC.N.sm.s0
 have hs1 := hC.N.sm.s1
 have ht0 := hC.N.sm.t0
 have ht1 := hC.N.sm.t1
 have hl := hC.N.sm.l
 refine newA_intro fun g1 m1 hg1 e1 hb1 hle1 => newA_intro fun g3 m2 hg3 e2 hb3 hle2 => newA_intro fun g5 m3 hg5 e3 hb5 hle3 => newA_intro fun g7 m4 hg7 e4 hb7 hle4 => ?_
 have l2 := Mem.le_trans hle1 hle2
 have l3 := Mem.le_trans l2 hle3
 have l4 := Mem.le_trans l3 hle4
 have p1 : m4 g1 = some (.cells (cA s r a) 29 (0, 0)) := hle4 _ _ (hle3 _ _ (hle2 _ _ hb1))
 have im := hW.loc hg1 p1 l4
 have h3 := hle4 _ _ (hle3 _ _ hb3)
 have h5 := hle4 _ _ hb5
 have n13 : g1 ≠ g3 := ne_of_none hg3 hb1
 have n15 : g1 ≠ g5 := ne_of_none hg5 (hle2 _ _ hb1)
 have n17 : g1 ≠ g7 := ne_of_none hg7 (hle3 _ _ (hle2 _ _ hb1))
 have n35 : g3 ≠ g5 := ne_of_none hg5 hb3
 have n37 : g3 ≠ g7 := ne_of_none hg7 (hle3 _ _ hb3)
 have n57 : g5 ≠ g7 := ne_of_none hg7 hb5
 have z3 := le_none hle1 hg3
 have z5 := le_none l2 hg5
 have z7 := le_none l3 hg7
 have d3 := hW.fresh z3
 have d5 := hW.fresh z5
 have d7 := hW.fresh z7
 have hO : Off D m m4 := Off.of_le l4
 refine ⟨Mem.le m4, Mem.le_refl _, _, held (cell_of h3 0), _, held (cell_of h3 1), via h100 ⟨v, rfl, _, rfl, Mem.le_refl _, ?_⟩⟩
 have same : fwdA a v = (a, v) → fwdT Q g1 g3 g5 g7 m4 := fun e => by
   rw [e] at hQ
   exact fwdT_ok im h3 h5 hb7 n15 n35 n57 z5 z7 d5 d7 hO hQ
 cases hr : isRefB v with
 | false =>
   rw [if_pos (by rfl)]
   exact same (by unfold fwdA; rw [if_neg (by rw [hr]; simp)])
 | true =>
   rw [if_neg (by simp)]
   refine ⟨_, held (cell_of h3 1), _, held (cell_of p1 1), by show a.semi ≠ 0; omega, _, held (cell_of p1 2), ?_⟩
   rcases hin hr with hp | hp
   · have i1 := hC.in1 hp
     rw [half_of hs0 ht0 ht1 i1.1 (by omega), w64 (x := a.to) (by omega) (by omega), if_pos (by simp)]
     exact same (by unfold fwdA; rw [if_neg (by rw [hC.other1 hp]; simp)])
   · have i2 := hC.in2 hp
     rw [half_of hs0 (by omega) (by omega) i2.1 (by omega), w64 (x := 1 - a.to) (by omega) (by omega), if_neg (by simp; omega)]
     have hAt := im.w.at
     have hsn := hAt.n
     refine ⟨_, _, _, cell_of p1 0, _, cell_of h3 1, wd hAt.w hAt.n (by omega) (by omega) fun ad had hd => ⟨_, hd _ (Mem.le_refl _), via h92 ⟨_, rfl, gw_in hC.wf.w v.2, _, _, rfl, ?_⟩⟩⟩
     cases hf : (fwd (gw a.ws v.2)).2 with
     | false =>
       rw [if_pos (by rfl)]
       have hok : okW (gw a.ws v.2) = true := by
         rcases hC.h2 v.2 hp with h | h
         · exact h
         · rw [hf] at h; cases h.1
       have bz := szW_0 hC.wf.w v.2
       refine ⟨_, _, _, cell_of p1 0, _, cell_of p1 1, _, cell_of p1 2, _, cell_of p1 3, _, cell_of p1 4, _, cell_of p1 5, _, cell_of p1 6, _, cell_of p1 7, _, cell_of p1 8, _, _, _, cell_of p1 9, _, cell_of h3 1, via h56 ⟨s, r, a, v.2, rfl, ⟨hAt, hC.wf, by omega, by omega⟩, _, _, _, rfl, _, cell_of p1 3, (szW a.ws v.2 + 1).toNat + 1, ?_⟩⟩
       have e : fwdA a v = (fwdW a v.2, (v.1, a.top)) := by unfold fwdA; rw [if_pos ⟨hr, hC.other2 hp⟩, if_neg (by rw [hf]; simp)]
       rw [e] at hQ
       rw [show IntKind.i64.wrap ((lookW a.ws v.2).2.1 + 1) = szW a.ws v.2 + 1 from w64 (by show _ ≤ szW a.ws v.2 + 1; omega) (by show szW a.ws v.2 + 1 ≤ _; omega)]
       exact fwdL_ok t hC hp hok n13 n15 n17 n35 n37 n57 hg1 z3 z5 z7 d3 d5 d7 hQ _ 0 (by omega) m4 im hO h3 h5 hb7
     | true =>
       rw [if_neg (by simp)]
       have e : fwdA a v = (a, (v.1, toW a.ws v.2)) := by unfold fwdA; rw [if_pos ⟨hr, hC.other2 hp⟩, if_pos hf]
       rw [e] at hQ
       refine sto (c := #[.int .i64 v.1, .int .i64 v.2]) (t := 58) h3 rfl (by simp) fun m5 e5 q5 ne5 => ?_
       have q5 : m5 g3 = some (.cells #[.int .i64 v.1, .int .i64 (toW a.ws v.2)] 58 (0, 0)) := q5
       have im5 := im.ext (m' := m5) fun q hq => ne5 q fun e => by
         rcases List.mem_cons.1 hq with h | h
         · exact n13 (h.symm.trans e)
         · exact d3 (e ▸ h)
       exact fwdT_ok (v := (v.1, toW a.ws v.2)) im5 q5 (by rw [ne5 g5 (Ne.symm n35)]; exact h5) (by rw [ne5 g7 (Ne.symm n37)]; exact hb7) n15 n35 n57 z5 z7 d5 d7 (hO.fresh z3 ne5) hQ
def arT (Q : Value → Mem → Prop) (g1 g3 : Nat) (m4 : Mem) : Prop :=
 shN_2 (fun _ _ _ _ => True) Q m4 g1 g3
theorem arT_ok {Q : Value → Mem → Prop} {g1 g3 : Nat} {s r : Sl} {b : Ar} {D : List Nat} {M m0 : Mem} (im : Im M g1 s r b D) (h3 : M g3 = some (.cells zAr 29 (0, 0))) (z3 : m0 g3 = none) (d3 : g3 ∉ D)
   (hO : Off D m0 M) (hQ : ∀ m', (∀ b, b ∉ D → m' b = m0 b) → Wo m' s r b D → Q (vA s r b) m') : arT Q g1 g3 M := by
 unfold arT
 obtain ⟨wa, wn, wc⟩ := s
 obtain ⟨ra, rn, rc⟩ := r
 refine ⟨_, _, _, cell_of im.p 0, _, cell_of im.p 1, _, cell_of im.p 2, _, cell_of im.p 3, _, cell_of im.p 4, _, cell_of im.p 5, _, cell_of im.p 6, _, cell_of im.p 7, _, cell_of im.p 8, _, _, _, cell_of im.p 9, ?_⟩
 refine sto_ar h3 fun m1 e1 q1 ne1 => ?_
 have p3 : Ptr m1 g3 ⟨wa, wn, wc⟩ ⟨ra, rn, rc⟩ b := q1
 refine ⟨_, _, _, cell_of p3 0, _, cell_of p3 1, _, cell_of p3 2, _, cell_of p3 3, _, cell_of p3 4, _, cell_of p3 5, _, cell_of p3 6, _, cell_of p3 7, _, cell_of p3 8, _, _, _, cell_of p3 9, ?_⟩
 exact ret_off (hO.fresh z3 ne1) (hQ _ (fun b hb => mix_off hb) (Wo.mix (im.w.ext fun q hq => ne1 q (fun e => d3 (e ▸ hq)))))
def s76 : Spec := fun args m Q => ∃ (s r : Sl) (a : Ar) (D : List Nat), args = [vA s r a] ∧ Wo m s r a D ∧ ∀ m', (∀ b, b ∉ D → m' b = m b) → Wo m' s r (overA a) D → Q (vA s r (overA a)) m'
theorem f76 (t : Tab) : ∀ args m Q, s76 args m Q → FA Tryz.prog (look t) kp76 Tryz.f76 args m Q := by
 rintro args m Q ⟨s, r, a, D, rfl, hW, hQ⟩
 show FA Tryz.prog (look t) kp76 Tryz.f76 [aG s r a] m Q
 rw [e76]
 refine newA_intro fun g1 m1 hg1 e1 hb1 hle1 => newA_intro fun g3 m2 hg3 e2 hb3 hle2 => ?_
 have l2 := Mem.le_trans hle1 hle2
 have p1 : m2 g1 = some (.cells (cA s r a) 29 (0, 0)) := hle2 _ _ hb1
 have im := hW.loc hg1 p1 l2
 have n13 : g1 ≠ g3 := ne_of_none hg3 hb1
 have z3 := le_none hle1 hg3
 have d3 := hW.fresh z3
 have hO : Off D m m2 := Off.of_le l2
 have same : overA a = a → arT Q g1 g3 m2 := fun e => by
   rw [e] at hQ
   exact arT_ok im hb3 z3 d3 hO hQ
 refine ⟨_, cell_of im.p 4, ?_⟩
 cases hc : a.cyc with
 | false =>
   rw [if_neg (by simp)]
   exact same (by unfold overA; rw [if_neg (by rw [hc]; simp)])
 | true =>
   rw [if_pos rfl]
   refine ⟨_, cell_of im.p 5, _, cell_of im.p 3, ?_⟩
   by_cases hs : a.scan = a.top
   · rw [if_pos (by simpa using hs)]
     have e : overA a = { a with cyc := false, scan := 0, old := 0, cop := 0 } := by unfold overA; rw [if_pos ⟨hc, hs⟩]
     rw [e] at hQ
     refine im.fld 4 _ { a with cyc := false } rfl (by decide) rfl rfl rfl fun m3 o3 im3 => ?_
     refine im3.fld 5 _ { a with cyc := false, scan := 0 } rfl (by decide) rfl rfl rfl fun m4 o4 im4 => ?_
     refine im4.fld 6 _ { a with cyc := false, scan := 0, old := 0 } rfl (by decide) rfl rfl rfl fun m5 o5 im5 => ?_
     refine im5.fld 7 _ { a with cyc := false, scan := 0, old := 0, cop := 0 } rfl (by decide) rfl rfl rfl fun m6 o6 im6 => ?_
     refine arT_ok im6 ?_ z3 d3 ((((hO.fresh hg1 o3).fresh hg1 o4).fresh hg1 o5).fresh hg1 o6) hQ
     rw [o6 g3 (Ne.symm n13), o5 g3 (Ne.symm n13), o4 g3 (Ne.symm n13), o3 g3 (Ne.symm n13)]
     exact hb3
   · rw [if_neg (by simpa using hs)]
     exact same (by unfold overA; rw [if_neg (by simp [hs])])
theorem setAll_cA {s0 r0 s r : Sl} {b0 b : Ar} : setAll (cA s0 r0 b0) 0 [.slice s.a s.n s.c, .int .i64 b.semi, .int .i64 b.to, .int .i64 b.top, .bool b.cyc, .int .i64 b.scan, .int .i64 b.old, .int .i64 b.cop, .int .i64 b.ser, .slice r.a r.n r.c] = cA s r b := by kernel_rfl
theorem put_all {g : Nat} {s0 r0 s r : Sl} {b0 b : Ar} {D : List Nat} {M : Mem} {K : Mem → Prop} (h : Ptr M g s0 r0 b0) (hW : Wo M s r b D) (hg : g ∉ D) (hK : ∀ M', (∀ q, q ≠ g → M' q = M q) → Im M' g s r b D → K M') :
   stoA M ⟨g, 0, none⟩ [.slice s.a s.n s.c, .int .i64 b.semi, .int .i64 b.to, .int .i64 b.top, .bool b.cyc, .int .i64 b.scan, .int .i64 b.old, .int .i64 b.cop, .int .i64 b.ser, .slice r.a r.n r.c] K := by
 refine sto h rfl (by show 0 + 10 ≤ 10; decide) fun m' e q ne => hK m' ne ⟨?_, hW.ext fun b hb => ne b fun e => hg (e ▸ hb), hg⟩
 rw [setAll_cA] at q
 exact q
theorem Off.none {X : List Nat} {m M : Mem} {g : Nat} (h : Off X m M) (hg : M g = none) (hx : g ∉ X) : m g = none := by
 cases e : m g with
 | none => rfl
 | some o => have := h g o hx e; rw [hg] at this; cases this
theorem Off.keep {X : List Nat} {m M : Mem} {b : Nat} (h : Off X m M) (hb : b ∉ X) (hl : ∃ o, m b = some o) : M b = m b := by
 obtain ⟨o, ho⟩ := hl
 rw [ho, h b o hb ho]
theorem Off.at {X : List Nat} {m M : Mem} {b : Nat} {o : Obj} (h : Off X m M) (hb : b ∉ X) (ho : m b = some o) : M b = some o := h b o hb ho
theorem Off.sub {X Y : List Nat} {m M : Mem} (h : Off X m M) (hs : ∀ b ∈ X, b ∈ Y) : Off Y m M := fun b o hb e => h b o (fun hx => hb (hs b hx)) e
theorem putV_tag {a a1 : Ar} {T1 T2 Ta : List Int} (hw : a.wf) {p x : Int} {w : Vl} (v1 : valOkB (valW a.ws (p + x)) = true) (F : FwdOk a T1 T2 (valW a.ws (p + x)) a1 w Ta) (hp : p ∈ T1) (x0 : 0 ≤ x) (x1 : x ≤ szW a.ws p) (p0 : 0 ≤ p) (hl : p + x + 1 < a.ws.length) :
   putV a1 (p + x) w = { a1 with ws := setW a1.ws (p + x + 1) (uW w.2) } := by
 have hin := gw_in hw.w (p + x)
 have ht := wrap_big hin (valOk_tag v1)
 have e1 : gw a1.ws (p + x) = gw a.ws (p + x) := F.keep p hp x x0 x1
 have e2 : uW w.1 = gw a1.ws (p + x) := by
   rw [F.tag, e1]
   have h0 := hin.1
   have : (valW a.ws (p + x)).1 = gw a.ws (p + x) := w64 (by omega) (by omega)
   rw [this]
   exact uW_id h0 (by omega)
 unfold putV
 rw [e2, setW_same (by omega) (by rw [F.f.len]; omega) rfl]
def stS (call : FuncId → Spec) (n2 n6 : Nat) (Q : Value → Mem → Prop) (x1 : Int) (x2g x4g : Nat) (x6 : Int) (x7g : Nat) (x8a : Option Addr) (x8n x8c : Nat) (x9 : Int) (g167 : Nat) (m169 : Mem) : Prop :=
 (∃ (ra170 : Option Addr) (rn171 rc172 : Nat), (csN m169 x2g 0 ra170 rn171 rc172 ∧ (∃ y174 : Int, (ciN m169 x2g 1 y174 ∧ (∃ y176 : Int, (ciN m169 x2g 2 y176 ∧ (∃ y178 : Int, (ciN m169 x2g 3 y178 ∧ (∃ b180 : Bool, (cbN m169 x2g 4 b180 ∧ (∃ y182 : Int, (ciN m169 x2g 5 y182 ∧ (∃ y184 : Int, (ciN m169 x2g 6 y184 ∧ (∃ y186 : Int, (ciN m169 x2g 7 y186 ∧ (∃ y188 : Int, (ciN m169 x2g 8 y188 ∧ (∃ (ra190 : Option Addr) (rn191 rc192 : Nat), (csN m169 x2g 9 ra190 rn191 rc192 ∧ (∃ y194 : Int, (ciN m169 g167 0 y194 ∧ (∃ y196 : Int, (ciN m169 g167 1 y196 ∧ (call 116 [(.agg #[(.slice ra170 rn171 rc172), (.int .i64 y174), (.int .i64 y176), (.int .i64 y178), (.bool b180), (.int .i64 y182), (.int .i64 y184), (.int .i64 y186), (.int .i64 y188), (.slice ra190 rn191 rc192)]), (.agg #[(.int .i64 y194), (.int .i64 y196)])] m169 fun v198 m199 => (∃ (ra200 : Option Addr) (rn201 rc202 : Nat), (∃ y203 : Int, (∃ y204 : Int, (∃ y205 : Int, (∃ b206 : Bool, (∃ y207 : Int, (∃ y208 : Int, (∃ y209 : Int, (∃ y210 : Int, (∃ (ra211 : Option Addr) (rn212 rc213 : Nat), (∃ y214 : Int, (∃ y215 : Int, (v198 = (.tuple #[(.agg #[(.slice ra200 rn201 rc202), (.int .i64 y203), (.int .i64 y204), (.int .i64 y205), (.bool b206), (.int .i64 y207), (.int .i64 y208), (.int .i64 y209), (.int .i64 y210), (.slice ra211 rn212 rc213)]), (.agg #[(.int .i64 y214), (.int .i64 y215)])]) ∧ (newA m199 (.cells #[(.slice none 0 0), (.int .i64 (0 : Int)), (.int .i64 (0 : Int)), (.int .i64 (0 : Int)), (.bool false), (.int .i64 (0 : Int)), (.int .i64 (0 : Int)), (.int .i64 (0 : Int)), (.int .i64 (0 : Int)), (.slice none 0 0)] 29 (0, 0)) fun g216 m217 => (newA m217 (.cells #[(.int .i64 (0 : Int)), (.int .i64 (0 : Int))] 58 (0, 0)) fun g218 m219 => (stoA m219 ⟨g216, 0, none⟩ [(.slice ra200 rn201 rc202), (.int .i64 y203), (.int .i64 y204), (.int .i64 y205), (.bool b206), (.int .i64 y207), (.int .i64 y208), (.int .i64 y209), (.int .i64 y210), (.slice ra211 rn212 rc213)] fun m220 => (stoA m220 ⟨g218, 0, none⟩ [(.int .i64 y214), (.int .i64 y215)] fun m221 => (∃ (ra222 : Option Addr) (rn223 rc224 : Nat), (csN m221 g216 0 ra222 rn223 rc224 ∧ (∃ y226 : Int, (ciN m221 g216 1 y226 ∧ (∃ y228 : Int, (ciN m221 g216 2 y228 ∧ (∃ y230 : Int, (ciN m221 g216 3 y230 ∧ (∃ b232 : Bool, (cbN m221 g216 4 b232 ∧ (∃ y234 : Int, (ciN m221 g216 5 y234 ∧ (∃ y236 : Int, (ciN m221 g216 6 y236 ∧ (∃ y238 : Int, (ciN m221 g216 7 y238 ∧ (∃ y240 : Int, (ciN m221 g216 8 y240 ∧ (∃ (ra242 : Option Addr) (rn243 rc244 : Nat), (csN m221 g216 9 ra242 rn243 rc244 ∧ (stoA m221 ⟨x2g, 0, none⟩ [(.slice ra222 rn223 rc224), (.int .i64 y226), (.int .i64 y228), (.int .i64 y230), (.bool b232), (.int .i64 y234), (.int .i64 y236), (.int .i64 y238), (.int .i64 y240), (.slice ra242 rn243 rc244)] fun m246 => (∃ S247 : Mem → Prop, S247 m246 ∧ (∃ (ra248 : Option Addr) (rn249 rc250 : Nat), ((hsN S247 x2g 0 ra248 rn249 rc250) ∧ (∃ y252 : Int, ((hiN S247 x2g 5 y252) ∧ (optA x8a fun d254 => (0 ≤ x9 ∧ x9 < ((x8n : Nat) : Int) ∧ (∃ y255 : Int, ((∀ q256 : Mem, S247 q256 → Mem.cell? q256 (d254.add (Int.toNat x9 * 1)) = some (.int .i64 y255)) ∧ (∃ y257 : Int, ((hiN S247 g218 1 y257) ∧ (optA ra248 fun d259 => (0 ≤ (IntKind.i64.wrap ((IntKind.i64.wrap (y252 + y255)) + (1 : Int))) ∧ (IntKind.i64.wrap ((IntKind.i64.wrap (y252 + y255)) + (1 : Int))) < ((rn249 : Nat) : Int) ∧ (stoA m246 (d259.add (Int.toNat (IntKind.i64.wrap ((IntKind.i64.wrap (y252 + y255)) + (1 : Int))) * 1)) [(.int .u64 (IntKind.u64.wrap y257))] fun m260 => L75_6 call n2 n6 Q x1 x2g x4g x6 x7g x8a x8n x8c ((IntKind.i64.wrap (x9 + (1 : Int)))) m260)))))))))))))))))))))))))))))))))))))))))))))))))))))))))))))))))))))))))))))
theorem stS_ok (t : Tab) (h116 : look t 116 = s116) {Q : Value → Mem → Prop} {n2 n6 g1 g4 g7 gv : Nat} {x1 x6 p x : Int} {i : Nat} {s r sl : Sl} {D : List Nat} {M m0 : Mem} {b : Ar} {xs : List Int} {T1 T2 : List Int} (im : Im M g1 s r b D) (hO : Off D m0 M) (z1 : m0 g1 = none)
   (hv : M gv = some (.cells #[.int .i64 (valW b.ws (p + x)).1, .int .i64 (valW b.ws (p + x)).2] 58 (0, 0))) (hC : C0 b T1 T2) (hp : p ∈ T1) (hx : x ∈ slotsL (kdW b.ws p) (szW b.ws p)) (hs : b.scan = p) (hsl : Rd M sl.a xs) (hxn : xs.length = sl.n) (hi : i < sl.n) (hxi : xs.getD i 0 = x) (hsb : sl.n ≤ 2 ^ 30)
   (hslM : ∀ M', Off (g1 :: D) M M' → Rd M' sl.a xs)
   (hK : ∀ M', Off D m0 M' → Off (g1 :: D) M M' → Im M' g1 s r (putV (fwdA b (valW b.ws (p + x))).1 (p + x) (fwdA b (valW b.ws (p + x))).2) D → L75_6 (look t) n2 n6 Q x1 g1 g4 x6 g7 sl.a sl.n sl.c ((i + 1 : Nat) : Int) M') :
   stS (look t) n2 n6 Q x1 g1 g4 x6 g7 sl.a sl.n sl.c (i : Int) gv M := by
 unfold stS
 have nm := hC.nums
 have hs1 := hC.N.sm.s1
 have hl := hC.N.sm.l
 have ip := hC.in1 hp
 have sx := slots_in (size_ok hC.wf (hC.h1 _ hp)).1 hx
 obtain ⟨v1, v2⟩ := hC.v1 _ hp x hx
 obtain ⟨Ta, F⟩ := fwd_ok hC v1 v2
 refine ⟨_, _, _, cell_of im.p 0, _, cell_of im.p 1, _, cell_of im.p 2, _, cell_of im.p 3, _, cell_of im.p 4, _, cell_of im.p 5, _, cell_of im.p 6, _, cell_of im.p 7, _, cell_of im.p 8, _, _, _, cell_of im.p 9, _, cell_of hv 0, _, cell_of hv 1, ?_⟩
 refine via h116 ⟨s, r, b, D, valW b.ws (p + x), rfl, im.w, ⟨T1, T2, hC, v1, v2⟩, fun m1 o1 w1 => ⟨_, _, _, _, _, _, _, _, _, _, _, _, _, _, _, _, rfl, ?_⟩⟩
 have e1 := putV_tag hC.wf v1 F hp (by omega) (by omega) (by omega) (by omega)
 rw [e1] at hK
 have ft : (fwdA b (valW b.ws (p + x))).1.scan = p := F.f.scan.trans hs
 have fl : (fwdA b (valW b.ws (p + x))).1.ws.length = b.ws.length := F.f.len
 generalize hbb : (fwdA b (valW b.ws (p + x))).1 = b1 at w1 hK ft fl ⊢
 generalize hww : (fwdA b (valW b.ws (p + x))).2 = w at hK ⊢
 have p1 : Ptr m1 g1 s r b := by unfold Ptr; rw [o1 g1 im.g]; exact im.p
 have O1 : Off D M m1 := Off.of_eq o1
 refine newA_intro fun g2 m2 hg2 e2 hb2 hle2 => newA_intro fun g3 m3 hg3 e3 hb3 hle3 => ?_
 have n23 : g2 ≠ g3 := ne_of_none hg3 hb2
 have n12 : g1 ≠ g2 := ne_of_none hg2 p1
 have n13 : g1 ≠ g3 := ne_of_none hg3 (hle2 _ _ p1)
 have d2 := w1.fresh hg2
 have d3 := w1.fresh (le_none hle2 hg3)
 refine sto_ar (hle3 _ _ hb2) fun m4 e4 q4 ne4 => ?_
 refine sto (c := #[.int .i64 0, .int .i64 0]) (t := 58) ((ne4 g3 (Ne.symm n23)).trans hb3) rfl (by simp) fun m5 e5 q5 ne5 => ?_
 have q5 : m5 g3 = some (.cells #[.int .i64 w.1, .int .i64 w.2] 58 (0, 0)) := q5
 have p2 : Ptr m5 g2 s r b1 := by unfold Ptr; rw [ne5 g2 n23]; exact q4
 have zg2 : M g2 = none := O1.none hg2 d2
 have zg3 : M g3 = none := O1.none (le_none hle2 hg3) d3
 have O3 : Off D M m3 := O1.trans (Off.of_le (Mem.le_trans hle2 hle3))
 have O5 : Off D M m5 := (O3.fresh zg2 ne4).fresh zg3 ne5
 have w5 : Wo m5 s r b1 D := w1.ext fun q hq => by
   obtain ⟨o, ho⟩ := w1.live q hq
   rw [ne5 q fun e => d3 (e ▸ hq), ne4 q fun e => d2 (e ▸ hq), ho, hle3 _ _ (hle2 _ _ ho)]
 have p5 : Ptr m5 g1 s r b := by
   unfold Ptr
   rw [ne5 g1 n13, ne4 g1 n12]
   exact hle3 _ _ (hle2 _ _ p1)
 refine ⟨_, _, _, cell_of p2 0, _, cell_of p2 1, _, cell_of p2 2, _, cell_of p2 3, _, cell_of p2 4, _, cell_of p2 5, _, cell_of p2 6, _, cell_of p2 7, _, cell_of p2 8, _, _, _, cell_of p2 9, ?_⟩
 refine put_all p5 w5 im.g fun m6 ne6 im6 => ?_
 have q6 : m6 g3 = some (.cells #[.int .i64 w.1, .int .i64 w.2] 58 (0, 0)) := by rw [ne6 g3 (Ne.symm n13)]; exact q5
 have O6 : Off (g1 :: D) M m6 := (O5.sub fun q hq => by simp [hq]).put (by simp) ne6
 refine ⟨Mem.le m6, Mem.le_refl _, _, _, _, held (cell_of im6.p 0), _, held (cell_of im6.p 5), ?_⟩
 refine at1 (0 : Int) (fun y : Int => .int .i64 y) (fun _ => rfl) (hslM m6 O6) hxn (by omega) (by omega) fun ad had hd => ⟨_, hd, _, held (cell_of q6 1), ?_⟩
 have ei : (i : Int).toNat = i := by omega
 rw [ei, hxi, ft, w64 (x := p + x) (by omega) (by omega), w64 (x := p + x + 1) (by omega) (by omega)]
 refine im6.put_w (by omega) (by omega) fun m7 o7 im7 => ?_
 rw [wsucc (n := i + 1) (by omega) (by omega)]
 exact hK m7 (((hO.trans O5).fresh z1 ne6).trans (Off.of_eq o7)) (O6.trans (Off.of_eq fun q hq => o7 q fun h => hq (by simp [h]))) im7
theorem slots_loopS (t : Tab) (h94 : look t 94 = s94) (h116 : look t 116 = s116) (h76 : look t 76 = s76) {Q : Value → Mem → Prop} {g1 g4 g7 n2 : Nat} {s r sl : Sl} {D E : List Nat} {m0 : Mem} {a : Ar} {T2 : List Int} {x1 x6 ser : Int}
   (z1 : m0 g1 = none) (n4 : g4 ∉ g1 :: D) (n7 : g7 ∉ g1 :: D) (hE : ∀ b ∈ E, b ∉ g1 :: D) (a0 : 0 ≤ a.scan) (a1 : a.scan ≤ 8000) (hw : ∀ x ∈ a.ws, inW x.v)
   (hK : ∀ M', Off D m0 M' → Im M' g1 s r (overA (scanA a)) D → M' g4 = some (.cells zAr 29 (0, 0)) → L75_2 (look t) n2 Q x1 g1 g4 (IntKind.i64.wrap (x6 + 1)) M') :
   ∀ (d i : Nat), i + d = (slotsL (kdW a.ws a.scan) (szW a.ws a.scan)).length → ∀ (M : Mem) (b : Ar) (T1 : List Int), Off D m0 M → Im M g1 s r b D → C0 b T1 T2 → a.scan ∈ T1 → kdW b.ws a.scan = kdW a.ws a.scan → szW b.ws a.scan = szW a.ws a.scan → b.scan = a.scan →
     scS a.scan ((slotsL (kdW a.ws a.scan) (szW a.ws a.scan)).drop i) b = scS a.scan (slotsL (kdW a.ws a.scan) (szW a.ws a.scan)) a →
     OwnL M sl (slotsL (kdW a.ws a.scan) (szW a.ws a.scan)) E → M g7 = some (.cells #[.int .i64 (kdW a.ws a.scan), .int .i64 (szW a.ws a.scan), .int .i64 ser] 72 (0, 0)) → M g4 = some (.cells zAr 29 (0, 0)) →
     L75_6 (look t) n2 (d + 1) Q x1 g1 g4 x6 g7 sl.a sl.n sl.c (i : Int) M := by
 have hB : (slotsL (kdW a.ws a.scan) (szW a.ws a.scan)).length ≤ 2 ^ 30 := by
   unfold slotsL
   rw [everyK_len]
   unfold numK fromK
   have := szW_0 hw a.scan
   repeat' split
   all_goals omega
 intro d
 induction d with
 | zero =>
   intro i hi M b T1 hO im hC hp hk hz hs he hsl hb7 hb4
   have bz := szW_0 hw a.scan
   rw [l75_6]
   refine ⟨M, Mem.le_refl _, ?_⟩
   have hn := hsl.1
   rw [if_neg (by simp; omega)]
   refine ⟨_, cell_of im.p 5, _, cell_of hb7 1, ?_⟩
   rw [hs, w64 (x := a.scan + szW a.ws a.scan) (by omega) (by omega), w64 (by omega) (by omega)]
   rw [List.drop_eq_nil_of_le (by omega)] at he
   have he : b = scS a.scan (slotsL (kdW a.ws a.scan) (szW a.ws a.scan)) a := he
   refine im.fld 5 _ (scanA a) (by unfold scanA; rw [← he]; rfl) (by decide) rfl (by unfold scanA; rw [← he]) (by unfold scanA; rw [← he]) fun m1 o1 im1 => ⟨_, _, _, cell_of im1.p 0, _, cell_of im1.p 1, _, cell_of im1.p 2, _, cell_of im1.p 3, _, cell_of im1.p 4, _, cell_of im1.p 5, _, cell_of im1.p 6, _, cell_of im1.p 7, _, cell_of im1.p 8, _, _, _, cell_of im1.p 9, ?_⟩
   refine via h76 ⟨s, r, scanA a, D, rfl, im1.w, fun m2 o2 w2 => ⟨_, _, _, _, _, _, _, _, _, _, _, _, _, _, rfl, ?_⟩⟩
   have p2 : Ptr m2 g1 s r (scanA a) := by unfold Ptr; rw [o2 g1 im.g]; exact im1.p
   refine put_all p2 w2 im.g fun m3 o3 im3 => ?_
   have h4 : m3 g4 = some (.cells zAr 29 (0, 0)) := by
     rw [o3 g4 fun h => n4 (by simp [h]), o2 g4 fun h => n4 (by simp [h]), o1 g4 fun h => n4 (by simp [h])]
     exact hb4
   exact hK m3 (((hO.fresh z1 o1).trans (Off.of_eq o2)).fresh z1 o3) im3 h4
 | succ d ih =>
   intro i hi M b T1 hO im hC hp hk hz hs he hsl hb7 hb4
   have hn := hsl.1
   have hlt : i < (slotsL (kdW a.ws a.scan) (szW a.ws a.scan)).length := by omega
   rw [l75_6]
   refine ⟨M, Mem.le_refl _, ?_⟩
   rw [if_pos (by simp; omega)]
   generalize hx : (slotsL (kdW a.ws a.scan) (szW a.ws a.scan))[i] = x
   have hgx : (slotsL (kdW a.ws a.scan) (szW a.ws a.scan)).getD i 0 = x := by rw [List.getD_eq_getElem?_getD, List.getElem?_eq_getElem hlt]; exact hx
   have hxm : x ∈ slotsL (kdW a.ws a.scan) (szW a.ws a.scan) := hx ▸ List.getElem_mem _
   have hxb : x ∈ slotsL (kdW b.ws a.scan) (szW b.ws a.scan) := by rw [hk, hz]; exact hxm
   have sx := slots_in (size_ok hC.wf (hC.h1 _ hp)).1 hxb
   have ip := hC.in1 hp
   have nm := hC.nums
   have hl := hC.N.sm.l
   have hs1 := hC.N.sm.s1
   have w1 : IntKind.i64.wrap (a.scan + x) = a.scan + x := w64 (by omega) (by omega)
   obtain ⟨v1, v2⟩ := hC.v1 _ hp x hxb
   have hAt := im.w.at
   have hsn := hAt.n
   have rv : readV b.ws (a.scan + x) = (valW b.ws (a.scan + x), true) := by unfold readV; rw [v1]; rfl
   obtain ⟨T1', S⟩ := scan_ok (p := a.scan) (T2 := T2) [x] b T1 hC hp (by simp) (fun y hy => by simp at hy; subst hy; exact hxb)
   have e0 := S.head _ hp
   have ownM : ∀ M1 M' : Mem, Mem.le M M1 → Off (g1 :: D) M1 M' → OwnL M' sl (slotsL (kdW a.ws a.scan) (szW a.ws a.scan)) E := fun M1 M' hl1 hO1 => hsl.ext fun q hq => by
     obtain ⟨o, ho⟩ := hsl.live q hq
     rw [ho]
     exact hO1 q o (hE q hq) (hl1 q o ho)
   have core : ∀ (M1 : Mem) (gv : Nat), Mem.le M M1 → M1 gv = some (.cells #[.int .i64 (valW b.ws (a.scan + x)).1, .int .i64 (valW b.ws (a.scan + x)).2] 58 (0, 0)) →
       stS (look t) n2 (d + 1) Q x1 g1 g4 x6 g7 sl.a sl.n sl.c (i : Int) gv M1 := fun M1 gv hl1 hv =>
     stS_ok t h116 (im.le hl1) (hO.trans (Off.of_le hl1)) z1 hv hC hp hxb hs (hsl.rd.le hl1) hn.symm (by omega) hgx (by omega) (fun M' hO1 => (ownM M1 M' hl1 hO1).rd) fun M' hO2 hO3 im' =>
       ih (i + 1) (by omega) M' _ T1' hO2 im' S.c (S.sub _ hp) ((kd_c e0).trans hk) ((sz_c e0).trans hz) (S.f.scan.trans hs) (by rw [← he, List.drop_eq_getElem_cons hlt, hx]; rfl) (ownM M1 M' hl1 hO3) (hO3.at n7 (hl1 _ _ hb7)) (hO3.at n4 (hl1 _ _ hb4))
   refine ⟨Mem.le M, Mem.le_refl _, _, _, _, held (cell_of im.p 0), _, held (cell_of im.p 5), ?_⟩
   refine at1 (0 : Int) (fun y : Int => .int .i64 y) (fun _ => rfl) hsl.rd hn.symm (by omega) (by omega) fun ad had hd => ⟨_, hd, ?_, ?_⟩
   all_goals
     have ei : (i : Int).toNat = i := by omega
     rw [ei, hgx, hs, w1]
   · refine via h94 ⟨s, b.ws, a.scan + x, rfl, hAt.n, hAt.w, hC.wf.w, hC.wf.n, by omega, by omega, ?_⟩
     rw [rv]
     refine ⟨_, _, _, rfl, Mem.le_refl _, newA_intro fun gv m1 hgv e1 hbv hle1 => ⟨hle1, ?_⟩⟩
     refine sto (c := #[.int .i64 0, .int .i64 0]) (t := 58) hbv rfl (by simp) fun m2 e2 q2 ne2 => ?_
     have l2 : Mem.le M m2 := le_other hle1 hgv ne2
     exact ⟨l2, core m2 gv l2 q2⟩
   · refine newA_intro fun gv m1 hgv e1 hbv hle1 => ⟨hle1, ?_⟩
     refine via h94 ⟨s, b.ws, a.scan + x, rfl, hAt.n, hAt.w.le hle1, hC.wf.w, hC.wf.n, by omega, by omega, ?_⟩
     rw [rv]
     refine ⟨_, _, _, rfl, hle1, ?_⟩
     refine sto (c := #[.int .i64 0, .int .i64 0]) (t := 58) hbv rfl (by simp) fun m2 e2 q2 ne2 => ?_
     have l2 : Mem.le M m2 := le_other hle1 hgv ne2
     exact ⟨l2, core m2 gv l2 q2⟩
def stT (Q : Value → Mem → Prop) (x2g x4g : Nat) (x6 : Int) (m6 : Mem) : Prop :=
 shN_7 (fun _ _ _ _ => True) Q m6 x2g x4g x6
theorem stT_ok {Q : Value → Mem → Prop} {g1 g3 : Nat} {s r : Sl} {b : Ar} {D : List Nat} {M m0 : Mem} {k : Int} (im : Im M g1 s r b D) (h3 : M g3 = some (.cells zAr 29 (0, 0))) (z3 : m0 g3 = none) (d3 : g3 ∉ D)
   (hO : Off D m0 M) (hQ : ∀ m', (∀ b, b ∉ D → m' b = m0 b) → Wo m' s r b D → Q (.tuple #[vA s r b, .int .i64 k]) m') : stT Q g1 g3 k M := by
 unfold stT
 obtain ⟨wa, wn, wc⟩ := s
 obtain ⟨ra, rn, rc⟩ := r
 refine ⟨_, _, _, cell_of im.p 0, _, cell_of im.p 1, _, cell_of im.p 2, _, cell_of im.p 3, _, cell_of im.p 4, _, cell_of im.p 5, _, cell_of im.p 6, _, cell_of im.p 7, _, cell_of im.p 8, _, _, _, cell_of im.p 9, ?_⟩
 refine sto_ar h3 fun m1 e1 q1 ne1 => ?_
 have p3 : Ptr m1 g3 ⟨wa, wn, wc⟩ ⟨ra, rn, rc⟩ b := q1
 refine ⟨_, _, _, cell_of p3 0, _, cell_of p3 1, _, cell_of p3 2, _, cell_of p3 3, _, cell_of p3 4, _, cell_of p3 5, _, cell_of p3 6, _, cell_of p3 7, _, cell_of p3 8, _, _, _, cell_of p3 9, ?_⟩
 exact ret_off (hO.fresh z3 ne1) (hQ _ (fun b hb => mix_off hb) (Wo.mix (im.w.ext fun q hq => ne1 q (fun e => d3 (e ▸ hq)))))
def s75 : Spec := fun args m Q => ∃ (s r : Sl) (a : Ar) (D : List Nat) (n : Int), args = [vA s r a, .int .i64 n] ∧ Wo m s r a D ∧ Gd a ∧ 0 ≤ n ∧ n ≤ 2 ^ 20 ∧
 ∀ m' (k : Int), (∀ b, b ∉ D → m' b = m b) → Wo m' s r (stepsA n.toNat a) D → Q (.tuple #[vA s r (stepsA n.toNat a), .int .i64 k]) m'
theorem f75 (t : Tab) (h94 : look t 94 = s94) (h116 : look t 116 = s116) (h76 : look t 76 = s76) (h56 : look t 56 = s56) (h93 : look t 93 = s93) : ∀ args m Q, s75 args m Q → FA Tryz.prog (look t) kp75 Tryz.f75 args m Q := by
 rintro args m Q ⟨s, r, a, D, n, rfl, hW, hG, hn0, hn, hQ⟩
 show FA Tryz.prog (look t) kp75 Tryz.f75 [aG s r a, .int .i64 n] m Q
 rw [e75]
 refine newA_intro fun g1 m1 hg1 e1 hb1 hle1 => newA_intro fun g4 m2 hg4 e2 hb4 hle2 => ⟨n.toNat + 1, ?_⟩
 have l2 := Mem.le_trans hle1 hle2
 have p1 : m2 g1 = some (.cells (cA s r a) 29 (0, 0)) := hle2 _ _ hb1
 have im := hW.loc hg1 p1 l2
 have n14 : g1 ≠ g4 := ne_of_none hg4 hb1
 have z4 := le_none hle1 hg4
 have d4 := hW.fresh z4
 have n4 : g4 ∉ g1 :: D := fun h => by
   rcases List.mem_cons.1 h with h | h
   · exact n14 h.symm
   · exact d4 h
 have key : ∀ (f i : Nat), i + f = n.toNat → ∀ (M : Mem) (b : Ar), Im M g1 s r b D → Off D m M → Gd b → M g4 = some (.cells zAr 29 (0, 0)) → (∀ m' (k : Int), (∀ b, b ∉ D → m' b = m b) → Wo m' s r (stepsA f b) D → Q (.tuple #[vA s r (stepsA f b), .int .i64 k]) m') → L75_2 (look t) (f + 1) Q n g1 g4 (i : Int) M := by
   intro f
   induction f with
   | zero =>
     intro i hi M b imb hO hGb hb4 hK
     rw [l75_2]
     refine ⟨M, Mem.le_refl _, _, cell_of imb.p 4, ?_⟩
     have fin : stT Q g1 g4 (i : Int) M := stT_ok imb hb4 z4 d4 hO fun m' o w => hK m' _ o w
     cases b.cyc with
     | false => rw [if_neg (by simp)]; exact fin
     | true => rw [if_pos rfl, if_neg (by simp; omega)]; exact fin
   | succ f ih =>
     intro i hi M b imb hO hGb hb4 hK
     rw [l75_2]
     refine ⟨M, Mem.le_refl _, _, cell_of imb.p 4, ?_⟩
     rcases hGb with ⟨T1, h⟩ | ⟨T1, T2, h, hne⟩
     · rw [h.cy, if_neg (by simp)]
       rw [steps_idle _ h.cy] at hK
       exact (stT_ok imb hb4 z4 d4 hO fun m' o w => hK m' _ o w : stT Q g1 g4 (i : Int) M)
     · have hc := h.c.cy
       have hC := h.c
       rw [hc, if_pos rfl, if_pos (by simp; omega)]
       have hp : b.scan ∈ T1 := h.sc.resolve_left hne
       have ip := hC.in1 hp
       have nm := hC.nums
       have hs1 := hC.N.sm.s1
       have hl := hC.N.sm.l
       have hAt := imb.w.at
       have bz := szW_0 hC.wf.w b.scan
       refine ⟨_, _, _, cell_of imb.p 0, _, cell_of imb.p 1, _, cell_of imb.p 2, _, cell_of imb.p 3, _, cell_of imb.p 4, _, cell_of imb.p 5, _, cell_of imb.p 6, _, cell_of imb.p 7, _, cell_of imb.p 8, _, _, _, cell_of imb.p 9, _, cell_of imb.p 5, via h56 ⟨s, r, b, b.scan, rfl, ⟨hAt, hC.wf, by omega, by omega⟩, _, _, _, rfl, ?_⟩⟩
       refine newA_intro fun g6 m6 hg6 e6 hb6 hle6 => sto (c := #[.int .i64 0, .int .i64 0, .int .i64 0]) (t := 72) hb6 rfl (by simp) fun m7 e7 h7 ne7 => ?_
       have h7 : m7 g6 = some (.cells #[.int .i64 (kdW b.ws b.scan), .int .i64 (szW b.ws b.scan), .int .i64 (serW b.ws b.scan)] 72 (0, 0)) := h7
       have n6 := imb.fresh hg6
       have le7 : Mem.le M m7 := le_other hle6 hg6 ne7
       refine ⟨_, cell_of h7 0, _, cell_of h7 1, via h93 ⟨_, _, rfl, bz.1, bz.2, (size_ok hC.wf (hC.h1 _ hp)).1, fun sl M2 E hle2 hsl hE => ⟨_, _, _, rfl, (slotsL (kdW b.ws b.scan) (szW b.ws b.scan)).length + 1, ?_⟩⟩⟩
       have lM := Mem.le_trans le7 hle2
       have im2 := imb.le lM
       obtain ⟨T1', k1, k2, k3, k4⟩ := h.scan hne
       obtain ⟨o1, o2, o3, o4⟩ := k1.over
       refine slots_loopS t h94 h116 h76 (T2 := T2) (a := b) (m0 := m) (E := E) hg1 n4 n6 (fun q hq => imb.fresh (le_none le7 (hE q hq))) (by omega) (by omega) hC.wf.w (fun M' hO' imM h4' => ?_) _ 0 (by omega) M2 b T1 (hO.trans (Off.of_le lM)) im2 hC hp rfl rfl rfl rfl hsl (hle2 _ _ h7) (lM _ _ hb4)
       have ew : IntKind.i64.wrap ((i : Int) + 1) = ((i + 1 : Nat) : Int) := wsucc (n := i + 1) (by omega) (by omega)
       rw [ew]
       refine ih (i + 1) (by omega) M' _ imM hO' o1 h4' fun m' k o w => ?_
       have e : stepsA (f + 1) b = stepsA f (overA (scanA b)) := by
         conv => lhs; unfold stepsA
         rw [if_pos hc]
       rw [e] at hK
       exact hK m' k o w
 exact key n.toNat 0 (by omega) m2 a im (Off.of_le l2) hG hb4 hQ
theorem Wo.le {m m' : Mem} {s r : Sl} {a : Ar} {D : List Nat} (h : Wo m s r a D) (hl : Mem.le m m') : Wo m' s r a D := h.ext fun b hb => by
 obtain ⟨o, ho⟩ := h.live b hb
 rw [ho, hl b o ho]
theorem rgetH {m : Mem} {a : Option Addr} {l : List Vl} {i : Int} {n : Nat} {K : Addr → Prop} (h : Rd m a l) (hn : l.length = n) (h0 : 0 ≤ i) (hi : i < n)
   (hK : ∀ ad, a = some ad → (∀ q : Mem, Rd q a l → q.cell? (ad.add (i.toNat * 2)) = some (.int .i64 (l.getD i.toNat (0, 0)).1)) → (∀ q : Mem, Rd q a l → q.cell? ((ad.add (i.toNat * 2)).add 1) = some (.int .i64 (l.getD i.toNat (0, 0)).2)) → K ad) : optA a fun ad => 0 ≤ i ∧ i < (n : Int) ∧ K ad := by
 refine rget h hn h0 hi fun ad had _ _ => hK ad had (fun q hq => ?_) (fun q hq => ?_)
 · have := rget (K := fun ad => q.cell? (ad.add (i.toNat * 2)) = some (.int .i64 (l.getD i.toNat (0, 0)).1)) hq hn h0 hi fun ad _ c1 c2 => c1
   rw [had] at this
   exact this.2.2
 · have := rget (K := fun ad => q.cell? ((ad.add (i.toNat * 2)).add 1) = some (.int .i64 (l.getD i.toNat (0, 0)).2)) hq hn h0 hi fun ad _ c1 c2 => c2
   rw [had] at this
   exact this.2.2
def flK (call : FuncId → Spec) (n8 : Nat) (Q : Value → Mem → Prop) (x1g x2g : Nat) (x3 : Int) (S52 : Mem → Prop) (ra88 : Option Addr) (rn89 rc90 : Nat) (y91 y92 y93 : Int) (b94 : Bool) (y95 y96 y97 y98 : Int) (ra99 : Option Addr) (rn100 rc101 : Nat) (y102 y103 : Int) (g104 g106 : Nat) (m107 : Mem) : Prop :=
 shN_3 call Q m107 g104 ra88 rn89 rc90 y91 y92 y93 b94 y95 y96 y97 y98 ra99 rn100 rc101 S52 g106 y102 y103 x1g x3 n8 x2g
theorem flK_ok {call : FuncId → Spec} {n8 : Nat} {Q : Value → Mem → Prop} {g1 g3 ga gv i : Nat} {s r : Sl} {b b1 : Ar} {D : List Nat} {M M3 : Mem} {v : Vl} {S : Mem → Prop} (im : Im M g1 s r b D) (O : Off D M M3) (w : Wo M3 s r b1 D) (za : M ga = none) (zv : M gv = none) (da : ga ∉ D) (dv : gv ∉ D) (nav : ga ≠ gv)
   (ha : M3 ga = some (.cells zAr 29 (0, 0))) (hv : M3 gv = some (.cells #[.int .i64 0, .int .i64 0] 58 (0, 0))) (hS : ∀ q, Off D M q → Wo q s r b1 D → S q) (hi : i < b1.rs.length)
   (hK : ∀ M', Off (g1 :: D) M M' → Im M' g1 s r { b1 with rs := b1.rs.set i v } D → L74_8 call n8 Q g1 g3 (IntKind.i64.wrap ((i : Int) + 1)) M') :
   flK call n8 Q g1 g3 (i : Int) S s.a s.n s.c b1.semi b1.to b1.top b1.cyc b1.scan b1.old b1.cop b1.ser r.a r.n r.c v.1 v.2 ga gv M3 := by
 unfold flK
 have hk := w.at.k
 refine sto_ar ha fun m4 e4 q4 ne4 => ?_
 have O4 : Off D M m4 := O.fresh za ne4
 have w4 : Wo m4 s r b1 D := w.ext fun q hq => ne4 q fun e => da (e ▸ hq)
 refine ⟨hS _ O4 w4, ?_⟩
 refine sto (c := #[.int .i64 0, .int .i64 0]) (t := 58) ((ne4 gv (Ne.symm nav)).trans hv) rfl (by simp) fun m5 e5 q5 ne5 => ?_
 have q5 : m5 gv = some (.cells #[.int .i64 v.1, .int .i64 v.2] 58 (0, 0)) := q5
 have O5 : Off D M m5 := O4.fresh zv ne5
 have w5 : Wo m5 s r b1 D := w4.ext fun q hq => ne5 q fun e => dv (e ▸ hq)
 have pa : Ptr m5 ga s r b1 := by unfold Ptr; rw [ne5 ga nav]; exact q4
 have p5 : Ptr m5 g1 s r b := O5 _ _ im.g im.p
 have nv1 : gv ≠ g1 := fun e => by have := im.p; unfold Ptr at this; rw [← e, zv] at this; cases this
 refine ⟨_, _, _, cell_of pa 0, _, cell_of pa 1, _, cell_of pa 2, _, cell_of pa 3, _, cell_of pa 4, _, cell_of pa 5, _, cell_of pa 6, _, cell_of pa 7, _, cell_of pa 8, _, _, _, cell_of pa 9, ?_⟩
 refine put_all p5 w5 im.g fun m6 ne6 im6 => ?_
 have q6 : m6 gv = some (.cells #[.int .i64 v.1, .int .i64 v.2] 58 (0, 0)) := (ne6 gv nv1).trans q5
 refine ⟨_, _, _, cell_of im6.p 9, _, cell_of q6 0, _, cell_of q6 1, ?_⟩
 refine im6.put_r (v := v) (by omega) (by omega) fun m7 o7 im7 => ?_
 refine hK m7 ?_ im7
 exact ((O5.sub fun x hx => by simp [hx]).put (by simp) ne6).trans (Off.of_eq fun q hq => o7 q fun h => hq (by simp [h]))
theorem fl_loop (t : Tab) (h116 : look t 116 = s116) (h76 : look t 76 = s76) {Q : Value → Mem → Prop} {g1 g3 : Nat} {s r : Sl} {D : List Nat} {m0 : Mem} {T2 : List Int} (z1 : m0 g1 = none) (z3 : m0 g3 = none) (n31 : g3 ≠ g1) (d3 : g3 ∉ D) :
   ∀ (d i : Nat), i + d = r.n → r.n ≤ 2 ^ 20 → ∀ (M : Mem) (b : Ar) (T1 : List Int), Off D m0 M → Im M g1 s r b D → FlI b T1 T2 i → M g3 = some (.cells zAr 29 (0, 0)) →
     (∀ m', (∀ b, b ∉ D → m' b = m0 b) → Wo m' s r (overA (flR d i b)) D → Q (vA s r (overA (flR d i b))) m') → L74_8 (look t) (d + 1) Q g1 g3 (i : Int) M := by
 intro d
 induction d with
 | zero =>
   intro i hi hB M b T1 hO im hF h3 hK
   rw [l74_8]
   refine ⟨M, Mem.le_refl _, _, _, _, cell_of im.p 9, ?_⟩
   rw [if_neg (by simp; omega)]
   refine ⟨_, _, _, cell_of im.p 0, _, cell_of im.p 1, _, cell_of im.p 2, _, cell_of im.p 3, _, cell_of im.p 4, _, cell_of im.p 5, _, cell_of im.p 6, _, cell_of im.p 7, _, cell_of im.p 8, _, _, _, cell_of im.p 9, ?_⟩
   refine via h76 ⟨s, r, b, D, rfl, im.w, fun m1 o1 w1 => ⟨_, _, _, _, _, _, _, _, _, _, _, _, _, _, rfl, ?_⟩⟩
   obtain ⟨wa, wn, wc⟩ := s
   obtain ⟨ra, rn, rc⟩ := r
   refine sto_ar ((o1 g3 d3).trans h3) fun m2 e2 q2 ne2 => ?_
   have p3 : Ptr m2 g3 ⟨wa, wn, wc⟩ ⟨ra, rn, rc⟩ (overA b) := q2
   refine ⟨_, _, _, cell_of p3 0, _, cell_of p3 1, _, cell_of p3 2, _, cell_of p3 3, _, cell_of p3 4, _, cell_of p3 5, _, cell_of p3 6, _, cell_of p3 7, _, cell_of p3 8, _, _, _, cell_of p3 9, ?_⟩
   exact ret_off ((hO.trans (Off.of_eq o1)).fresh z3 ne2) (hK _ (fun b hb => mix_off hb) (Wo.mix (w1.ext fun q hq => ne2 q (fun e => d3 (e ▸ hq)))))
 | succ d ih =>
   intro i hi hB M b T1 hO im hF h3 hK
   have hAt := im.w.at
   have hk := hAt.k
   rw [l74_8]
   refine ⟨M, Mem.le_refl _, _, _, _, cell_of im.p 9, ?_⟩
   rw [if_pos (by simp; omega)]
   obtain ⟨⟨v1, v2⟩, Ta, F, sf, hlen⟩ := flS_ok (show i < b.rs.length by omega) hF
   refine ⟨fun q => q g1 = M g1 ∧ Rd q r.a b.rs, ⟨rfl, hAt.r⟩, _, _, _, fun q hq => cell_of (hq.1.trans im.p) 0, _, fun q hq => cell_of (hq.1.trans im.p) 1, _, fun q hq => cell_of (hq.1.trans im.p) 2, _, fun q hq => cell_of (hq.1.trans im.p) 3, _, fun q hq => cell_of (hq.1.trans im.p) 4, _, fun q hq => cell_of (hq.1.trans im.p) 5, _, fun q hq => cell_of (hq.1.trans im.p) 6, _, fun q hq => cell_of (hq.1.trans im.p) 7, _, fun q hq => cell_of (hq.1.trans im.p) 8, _, _, _, fun q hq => cell_of (hq.1.trans im.p) 9, _, _, _, fun q hq => cell_of (hq.1.trans im.p) 9, ?_⟩
   refine rgetH hAt.r hk (by omega) (by omega) fun ad had c1 c2 => ⟨_, fun q hq => c1 q hq.2, _, fun q hq => c2 q hq.2, ?_⟩
   have ei : (i : Int).toNat = i := by omega
   simp only [ei]
   have ew : IntKind.i64.wrap ((i : Int) + 1) = ((i + 1 : Nat) : Int) := wsucc (n := i + 1) (by omega) (by omega)
   have hS : ∀ (c : Ar), c.rs = b.rs → ∀ q, Off D M q → Wo q s r c D → (q g1 = M g1 ∧ Rd q r.a b.rs) := fun c hc q O w => ⟨(O _ _ im.g im.p).trans im.p.symm, by rw [← hc]; exact w.at.r⟩
   generalize hv : b.rs.getD i (0, 0) = v at *
   have hF1 : FlI (flS i b) Ta T2 (i + 1) := F
   have hR : RefIn b v := ⟨T1, T2, hF.c, v1, v2⟩
   have hrs : (fwdA b v).1.rs = b.rs := sf.rs
   have hfl : flS i b = { (fwdA b v).1 with rs := (fwdA b v).1.rs.set i (fwdA b v).2 } := by unfold flS; rw [hv]
   have hfr : flR (d + 1) i b = flR d (i + 1) (flS i b) := rfl
   rw [hfr] at hK
   have hi1 : i < (fwdA b v).1.rs.length := by rw [hrs]; omega
   have leaf : ∀ (ga gv : Nat) (M3 : Mem), Off D M M3 → Wo M3 s r (fwdA b v).1 D → M ga = none → M gv = none → ga ∉ D → gv ∉ D → ga ≠ gv → M3 ga = some (.cells zAr 29 (0, 0)) → M3 gv = some (.cells #[.int .i64 0, .int .i64 0] 58 (0, 0)) →
       flK (look t) (d + 1) Q g1 g3 (i : Int) (fun q => q g1 = M g1 ∧ Rd q r.a b.rs) s.a s.n s.c (fwdA b v).1.semi (fwdA b v).1.to (fwdA b v).1.top (fwdA b v).1.cyc (fwdA b v).1.scan (fwdA b v).1.old (fwdA b v).1.cop (fwdA b v).1.ser r.a r.n r.c (fwdA b v).2.1 (fwdA b v).2.2 ga gv M3 := by
     intro ga gv M3 O w za zv da dv nav ha hvv
     refine flK_ok im O w za zv da dv nav ha hvv (hS _ hrs) hi1 fun M' O' im' => ?_
     rw [ew]
     rw [← hfl] at im'
     refine ih (i + 1) (by omega) hB M' _ Ta ?_ im' hF1 ?_ hK
     · exact fun x o hx e => by
         by_cases e1 : x = g1
         · rw [e1, z1] at e; cases e
         · exact O' x o (by simp [e1, hx]) (hO x o hx e)
     · exact O' _ _ (by simp [n31, d3]) h3
   have S0 := hS b rfl M (Off.refl _ _) im.w
   refine ⟨?_, ?_, ?_⟩
   · refine via h116 ⟨s, r, b, D, v, rfl, im.w, hR, fun m1 o1 w1 => ⟨_, _, _, _, _, _, _, _, _, _, _, _, _, _, _, _, rfl, ?_⟩⟩
     have O1 : Off D M m1 := Off.of_eq o1
     refine ⟨hS _ hrs _ O1 w1, newA_intro fun ga m2 hga e2 hba hla => ?_, newA_intro fun gv m2 hgv e2 hbv hlv => ?_⟩
     · refine ⟨hS _ hrs _ (O1.trans (Off.of_le hla)) (w1.le hla), newA_intro fun gv m3 hgv e3 hbv hlv => ?_⟩
       have O3 := (O1.trans (Off.of_le hla)).trans (Off.of_le hlv)
       have w3 := (w1.le hla).le hlv
       refine ⟨hS _ hrs _ O3 w3, ?_⟩
       have da := w1.fresh hga
       have dv := w1.fresh (le_none hla hgv)
       exact leaf ga gv m3 O3 w3 (O1.none hga da) (O1.none (le_none hla hgv) dv) da dv (ne_of_none hgv hba) (hlv _ _ hba) hbv
     · refine ⟨hS _ hrs _ (O1.trans (Off.of_le hlv)) (w1.le hlv), newA_intro fun ga m3 hga e3 hba hla => ?_⟩
       have O3 := (O1.trans (Off.of_le hlv)).trans (Off.of_le hla)
       have w3 := (w1.le hlv).le hla
       refine ⟨hS _ hrs _ O3 w3, ?_⟩
       have dv := w1.fresh hgv
       have da := w1.fresh (le_none hlv hga)
       exact leaf ga gv m3 O3 w3 (O1.none (le_none hlv hga) da) (O1.none hgv dv) da dv (Ne.symm (ne_of_none hga hbv)) hba (hla _ _ hbv)
   · refine newA_intro fun ga m2 hga e2 hba hla => ?_
     have w2 := im.w.le hla
     have O2 : Off D M m2 := Off.of_le hla
     have da := im.w.fresh hga
     refine ⟨hS b rfl _ O2 w2, ?_, newA_intro fun gv m3 hgv e3 hbv hlv => ?_⟩
     · refine via h116 ⟨s, r, b, D, v, rfl, w2, hR, fun m1 o1 w1 => ⟨_, _, _, _, _, _, _, _, _, _, _, _, _, _, _, _, rfl, ?_⟩⟩
       have O1 := O2.trans (Off.of_eq o1)
       refine ⟨hS _ hrs _ O1 w1, newA_intro fun gv m3 hgv e3 hbv hlv => ?_⟩
       have O3 := O1.trans (Off.of_le hlv)
       have w3 := w1.le hlv
       refine ⟨hS _ hrs _ O3 w3, ?_⟩
       have dv := w1.fresh hgv
       have b1 := (o1 ga da).trans hba
       exact leaf ga gv m3 O3 w3 hga (O1.none hgv dv) da dv (ne_of_none hgv b1) (hlv _ _ b1) hbv
     · have w3 := w2.le hlv
       have O3 := O2.trans (Off.of_le hlv)
       refine ⟨hS b rfl _ O3 w3, ?_⟩
       have dv := w2.fresh hgv
       refine via h116 ⟨s, r, b, D, v, rfl, w3, hR, fun m1 o1 w1 => ⟨_, _, _, _, _, _, _, _, _, _, _, _, _, _, _, _, rfl, ?_⟩⟩
       have O1 := O3.trans (Off.of_eq o1)
       refine ⟨hS _ hrs _ O1 w1, ?_⟩
       exact leaf ga gv m1 O1 w1 hga (le_none hla hgv) da dv (ne_of_none hgv hba) ((o1 ga da).trans (hlv _ _ hba)) ((o1 gv dv).trans hbv)
   · refine newA_intro fun gv m2 hgv e2 hbv hlv => ?_
     have w2 := im.w.le hlv
     have O2 : Off D M m2 := Off.of_le hlv
     have dv := im.w.fresh hgv
     refine ⟨hS b rfl _ O2 w2, ?_, newA_intro fun ga m3 hga e3 hba hla => ?_⟩
     · refine via h116 ⟨s, r, b, D, v, rfl, w2, hR, fun m1 o1 w1 => ⟨_, _, _, _, _, _, _, _, _, _, _, _, _, _, _, _, rfl, ?_⟩⟩
       have O1 := O2.trans (Off.of_eq o1)
       refine ⟨hS _ hrs _ O1 w1, newA_intro fun ga m3 hga e3 hba hla => ?_⟩
       have O3 := O1.trans (Off.of_le hla)
       have w3 := w1.le hla
       refine ⟨hS _ hrs _ O3 w3, ?_⟩
       have da := w1.fresh hga
       have b1 := (o1 gv dv).trans hbv
       exact leaf ga gv m3 O3 w3 (O1.none hga da) hgv da dv (Ne.symm (ne_of_none hga b1)) hba (hla _ _ b1)
     · have w3 := w2.le hla
       have O3 := O2.trans (Off.of_le hla)
       refine ⟨hS b rfl _ O3 w3, ?_⟩
       have da := w2.fresh hga
       refine via h116 ⟨s, r, b, D, v, rfl, w3, hR, fun m1 o1 w1 => ⟨_, _, _, _, _, _, _, _, _, _, _, _, _, _, _, _, rfl, ?_⟩⟩
       have O1 := O3.trans (Off.of_eq o1)
       refine ⟨hS _ hrs _ O1 w1, ?_⟩
       exact leaf ga gv m1 O1 w1 (le_none hlv hga) hgv da dv (Ne.symm (ne_of_none hga hbv)) ((o1 ga da).trans hba) ((o1 gv dv).trans (hla _ _ hbv))
def s74 : Spec := fun args m Q => ∃ (s r : Sl) (a : Ar) (D : List Nat), args = [vA s r a] ∧ Wo m s r a D ∧ (∃ T1, I0 a T1) ∧ ∀ m', (∀ b, b ∉ D → m' b = m b) → Wo m' s r (flipA a) D → Q (vA s r (flipA a)) m'
theorem f74 (t : Tab) (h116 : look t 116 = s116) (h76 : look t 76 = s76) (h73 : look t 73 = s73) : ∀ args m Q, s74 args m Q → FA Tryz.prog (look t) kp74 Tryz.f74 args m Q := by
 rintro args m Q ⟨s, r, a, D, rfl, hW, ⟨T1, hI⟩, hQ⟩
 show FA Tryz.prog (look t) kp74 Tryz.f74 [aG s r a] m Q
 rw [e74]
 refine newA_intro fun g1 m1 hg1 e1 hb1 hle1 => newA_intro fun g3 m2 hg3 e2 hb3 hle2 => ?_
 have l2 := Mem.le_trans hle1 hle2
 have p1 : m2 g1 = some (.cells (cA s r a) 29 (0, 0)) := hle2 _ _ hb1
 have im := hW.loc hg1 p1 l2
 have n13 : g1 ≠ g3 := ne_of_none hg3 hb1
 have z3 := le_none hle1 hg3
 have d3 := hW.fresh z3
 have sm := hI.N.sm
 have t0 := sm.t0
 have t1 := sm.t1
 have s0 := sm.s0
 have s1 := sm.s1
 have w1 : IntKind.i64.wrap (1 - a.to) = 1 - a.to := w64 (by omega) (by omega)
 refine ⟨_, cell_of im.p 3, im.fld 6 _ { a with old := a.top } rfl (by decide) rfl rfl rfl fun m3 o3 im3 => ⟨_, cell_of im3.p 2, ?_⟩⟩
 rw [show IntKind.i64.wrap (1 - ({ a with old := a.top } : Ar).to) = 1 - a.to from w1]
 refine im3.fld 2 _ { a with old := a.top, to := 1 - a.to } rfl (by decide) rfl rfl rfl fun m4 o4 im4 => ⟨_, _, _, cell_of im4.p 0, _, cell_of im4.p 1, _, cell_of im4.p 2, _, cell_of im4.p 3, _, cell_of im4.p 4, _, cell_of im4.p 5, _, cell_of im4.p 6, _, cell_of im4.p 7, _, cell_of im4.p 8, _, _, _, cell_of im4.p 9, _, cell_of im4.p 2, ?_⟩
 refine via h73 ⟨s, r, _, 1 - a.to, rfl, by omega, by omega, by show 0 ≤ a.semi; omega, s1, _, rfl, ?_⟩
 refine im4.fld 3 _ { a with old := a.top, to := 1 - a.to, top := startA a (1 - a.to) } rfl (by decide) rfl rfl rfl fun m5 o5 im5 => ⟨_, cell_of im5.p 3, ?_⟩
 refine im5.fld 5 _ { a with old := a.top, to := 1 - a.to, top := startA a (1 - a.to), scan := startA a (1 - a.to) } rfl (by decide) rfl rfl rfl fun m6 o6 im6 => ?_
 refine im6.fld 7 _ { a with old := a.top, to := 1 - a.to, top := startA a (1 - a.to), scan := startA a (1 - a.to), cop := 0 } rfl (by decide) rfl rfl rfl fun m7 o7 im7 => ?_
 refine im7.fld 4 _ (flip0 a) rfl (by decide) rfl rfl rfl fun m8 o8 im8 => ⟨r.n + 1, ?_⟩
 have hk := im.w.at.k
 have hr := hI.wf.r
 have hFI : FlI (flip0 a) [] T1 0 := ⟨flip0_ok hI, rfl, fun j hj => by
   have := hI.r a.rs[j] (List.getElem_mem hj)
   exact ⟨this.1, fun hr => ⟨fun e => by omega, .inr (this.2 hr)⟩⟩⟩
 have O2 : Off D m m2 := Off.of_le l2
 have O8 : Off D m m8 := (((((O2.fresh hg1 o3).fresh hg1 o4).fresh hg1 o5).fresh hg1 o6).fresh hg1 o7).fresh hg1 o8
 have h3 : m8 g3 = some (.cells zAr 29 (0, 0)) := by rw [o8 g3 (Ne.symm n13), o7 g3 (Ne.symm n13), o6 g3 (Ne.symm n13), o5 g3 (Ne.symm n13), o4 g3 (Ne.symm n13), o3 g3 (Ne.symm n13)]; exact hb3
 refine fl_loop t h116 h76 (T2 := T1) hg1 z3 (Ne.symm n13) d3 r.n 0 (by omega) (by omega) m8 (flip0 a) [] O8 im8 hFI h3 ?_
 have e : overA (flR r.n 0 (flip0 a)) = flipA a := by unfold flipA; rw [hk]
 rw [e]
 exact hQ
def s117 : Spec := fun args m Q => ∃ (s r : Sl) (a : Ar) (D : List Nat), args = [vA s r a] ∧ Wo m s r a D ∧ OkC a ∧ ∀ m' (k : Int), (∀ b, b ∉ D → m' b = m b) → Wo m' s r (finA a) D → Q (.tuple #[vA s r (finA a), .int .i64 k]) m'
theorem f117 (t : Tab) (h75 : look t 75 = s75) (h76 : look t 76 = s76) : ∀ args m Q, s117 args m Q → FA Tryz.prog (look t) kp117 Tryz.f117 args m Q := by
 rintro args m Q ⟨s, r, a, D, rfl, hW, hG, hQ⟩
 show FA Tryz.prog (look t) kp117 Tryz.f117 [aG s r a] m Q
 rw [e117]
 refine newA_intro fun g1 m1 hg1 e1 hb1 hle1 => newA_intro fun g3 m2 hg3 e2 hb3 hle2 => ?_
 have l2 := Mem.le_trans hle1 hle2
 have p1 : m2 g1 = some (.cells (cA s r a) 29 (0, 0)) := hle2 _ _ hb1
 have im := hW.loc hg1 p1 l2
 have z3 := le_none hle1 hg3
 have d3 := hW.fresh z3
 refine ⟨_, _, _, cell_of im.p 0, _, cell_of im.p 1, _, cell_of im.p 2, _, cell_of im.p 3, _, cell_of im.p 4, _, cell_of im.p 5, _, cell_of im.p 6, _, cell_of im.p 7, _, cell_of im.p 8, _, _, _, cell_of im.p 9, ?_⟩
 refine via h76 ⟨s, r, a, D, rfl, im.w, fun m3 o3 w3 => ⟨_, _, _, _, _, _, _, _, _, _, _, _, _, _, rfl, ?_⟩⟩
 refine via h75 ⟨s, r, overA a, D, 8000, rfl, w3, hG.over.1, by decide, by decide, fun m4 k o4 w4 => ⟨_, _, _, _, _, _, _, _, _, _, _, _, _, _, _, rfl, ?_⟩⟩
 have e : stepsA (8000 : Int).toNat (overA a) = finA a := rfl
 rw [e] at w4 ⊢
 obtain ⟨wa, wn, wc⟩ := s
 obtain ⟨ra, rn, rc⟩ := r
 refine sto_ar ((o4 g3 d3).trans ((o3 g3 d3).trans hb3)) fun m5 e5 q5 ne5 => ?_
 have p3 : Ptr m5 g3 ⟨wa, wn, wc⟩ ⟨ra, rn, rc⟩ (finA a) := q5
 refine ⟨_, _, _, cell_of p3 0, _, cell_of p3 1, _, cell_of p3 2, _, cell_of p3 3, _, cell_of p3 4, _, cell_of p3 5, _, cell_of p3 6, _, cell_of p3 7, _, cell_of p3 8, _, _, _, cell_of p3 9, ?_⟩
 have O4 : Off D m m4 := ((Off.of_le l2).trans (Off.of_eq o3)).trans (Off.of_eq o4)
 exact ret_off (O4.fresh z3 ne5) (hQ _ k (fun b hb => mix_off hb) (Wo.mix (w4.ext fun q hq => ne5 q (fun e => d3 (e ▸ hq)))))
def s78 : Spec := fun args m Q => ∃ (s r : Sl) (a : Ar) (D : List Nat), args = [vA s r a] ∧ Wo m s r a D ∧ OkC a ∧ ∀ m', (∀ b, b ∉ D → m' b = m b) → Wo m' s r (collA a) D → Q (vA s r (collA a)) m'
theorem f78 (t : Tab) (h117 : look t 117 = s117) (h74 : look t 74 = s74) : ∀ args m Q, s78 args m Q → FA Tryz.prog (look t) kp78 Tryz.f78 args m Q := by
 rintro args m Q ⟨s, r, a, D, rfl, hW, hG, hQ⟩
 show FA Tryz.prog (look t) kp78 Tryz.f78 [aG s r a] m Q
 rw [e78]
 refine newA_intro fun g1 m1 hg1 e1 hb1 hle1 => newA_intro fun g3 m2 hg3 e2 hb3 hle2 => ?_
 have l2 := Mem.le_trans hle1 hle2
 have p1 : m2 g1 = some (.cells (cA s r a) 29 (0, 0)) := hle2 _ _ hb1
 have im := hW.loc hg1 p1 l2
 have n13 : g1 ≠ g3 := ne_of_none hg3 hb1
 have z3 := le_none hle1 hg3
 have d3 := hW.fresh z3
 obtain ⟨hI, _⟩ := hG.fin
 obtain ⟨T1, hI1⟩ := hI
 obtain ⟨k1, _⟩ := flip_gd hI1
 refine ⟨_, _, _, cell_of im.p 0, _, cell_of im.p 1, _, cell_of im.p 2, _, cell_of im.p 3, _, cell_of im.p 4, _, cell_of im.p 5, _, cell_of im.p 6, _, cell_of im.p 7, _, cell_of im.p 8, _, _, _, cell_of im.p 9, ?_⟩
 refine via h117 ⟨s, r, a, D, rfl, im.w, hG, fun m3 k o3 w3 => ⟨_, _, _, _, _, _, _, _, _, _, _, _, _, _, _, rfl, ?_⟩⟩
 have p3 : Ptr m3 g1 s r a := by unfold Ptr; rw [o3 g1 im.g]; exact im.p
 refine put_all p3 w3 im.g fun m4 o4 im4 => ⟨_, _, _, cell_of im4.p 0, _, cell_of im4.p 1, _, cell_of im4.p 2, _, cell_of im4.p 3, _, cell_of im4.p 4, _, cell_of im4.p 5, _, cell_of im4.p 6, _, cell_of im4.p 7, _, cell_of im4.p 8, _, _, _, cell_of im4.p 9, ?_⟩
 refine via h74 ⟨s, r, finA a, D, rfl, im4.w, ⟨T1, hI1⟩, fun m5 o5 w5 => ⟨_, _, _, _, _, _, _, _, _, _, _, _, _, _, rfl, ?_⟩⟩
 have p5 : Ptr m5 g1 s r (finA a) := by unfold Ptr; rw [o5 g1 im.g]; exact im4.p
 refine put_all p5 w5 im.g fun m6 o6 im6 => ⟨_, _, _, cell_of im6.p 0, _, cell_of im6.p 1, _, cell_of im6.p 2, _, cell_of im6.p 3, _, cell_of im6.p 4, _, cell_of im6.p 5, _, cell_of im6.p 6, _, cell_of im6.p 7, _, cell_of im6.p 8, _, _, _, cell_of im6.p 9, ?_⟩
 refine via h117 ⟨s, r, _, D, rfl, im6.w, k1.okC, fun m7 k7 o7 w7 => ⟨_, _, _, _, _, _, _, _, _, _, _, _, _, _, _, rfl, ?_⟩⟩
 have p7 : Ptr m7 g1 s r (flipA (finA a)) := by unfold Ptr; rw [o7 g1 im.g]; exact im6.p
 refine put_all p7 w7 im.g fun m8 o8 im8 => ?_
 have h8 : m8 g3 = some (.cells zAr 29 (0, 0)) := by
   rw [o8 g3 (Ne.symm n13), o7 g3 d3, o6 g3 (Ne.symm n13), o5 g3 d3, o4 g3 (Ne.symm n13), o3 g3 d3]; exact hb3
 have O8 : Off D m m8 := ((((((Off.of_le l2).trans (Off.of_eq o3)).fresh hg1 o4).trans (Off.of_eq o5)).fresh hg1 o6).trans (Off.of_eq o7)).fresh hg1 o8
 exact (arT_ok im8 h8 z3 d3 O8 hQ : arT Q g1 g3 m8)
def s77 : Spec := fun args m Q => ∃ (s r : Sl) (a : Ar), args = [vA s r a] ∧ NumP a ∧ Q (.int .i64 (freeA a)) m
theorem f77 (t : Tab) (h90 : look t 90 = s90) (h73 : look t 73 = s73) : ∀ args m Q, s77 args m Q → FA Tryz.prog (look t) kp77 Tryz.f77 args m Q := by
 rintro args m Q ⟨s, r, a, rfl, hN, hQ⟩
 show FA Tryz.prog (look t) kp77 Tryz.f77 [aG s r a] m Q
 rw [e77]
 have sm := hN.sm
 have t0 := sm.t0
 have t1 := sm.t1
 have s0 := sm.s0
 have s1 := sm.s1
 have hh := halves hN
 have e1 := endA_b (a := a) (h := a.to) t0 t1 (by omega) s1
 have hl := sm.l
 have hf := hN.f
 refine newA_intro fun g1 m2 hg1 e2 hb1 hle2 => ?_
 have p1 : Ptr m2 g1 s r a := hb1
 refine ⟨Mem.le m2, Mem.le_refl _, _, _, _, held (cell_of p1 0), _, held (cell_of p1 1), _, held (cell_of p1 2), _, held (cell_of p1 3), _, held (cell_of p1 4), _, held (cell_of p1 5), _, held (cell_of p1 6), _, held (cell_of p1 7), _, held (cell_of p1 8), _, _, _, held (cell_of p1 9), _, held (cell_of p1 3), via h90 ⟨s, r, a, rfl, t0, t1, by omega, s1, _, rfl, Mem.le_refl _, _, cell_of p1 4, ?_⟩⟩
 have w1 : IntKind.i64.wrap (endA a a.to - a.top) = endA a a.to - a.top := w64 (by omega) (by omega)
 cases hc : a.cyc with
 | false =>
   rw [if_neg (by simp)]
   have ef : freeA a = endA a a.to - a.top := by unfold freeA leftA; rw [hc, if_neg (by simp)]; omega
   rw [w1]
   rw [ef] at hQ
   exact ret_intro hle2 hQ
 | true =>
   unfold freeP at hf
   rw [if_pos hc] at hf
   rw [if_pos rfl]
   refine ⟨Mem.le m2, Mem.le_refl _, _, held (cell_of p1 6), _, _, _, held (cell_of p1 0), _, held (cell_of p1 1), _, held (cell_of p1 2), _, held (cell_of p1 3), _, held (cell_of p1 4), _, held (cell_of p1 5), _, held (cell_of p1 6), _, held (cell_of p1 7), _, held (cell_of p1 8), _, _, _, held (cell_of p1 9), _, held (cell_of p1 2), _, held (cell_of p1 7), ?_⟩
   rw [w64 (x := 1 - a.to) (by omega) (by omega)]
   refine via h73 ⟨s, r, a, 1 - a.to, rfl, by omega, by omega, by omega, s1, _, rfl, Mem.le_refl _, ?_⟩
   have ef : freeA a = endA a a.to - a.top - (a.old - startA a (1 - a.to) - a.cop) := by unfold freeA leftA; rw [hc, if_pos rfl]
   rw [w1, w64 (x := a.old - startA a (1 - a.to)) (by omega) (by omega), w64 (x := a.old - startA a (1 - a.to) - a.cop) (by omega) (by omega), w64 (by omega) (by omega)]
   rw [ef] at hQ
   exact ret_intro hle2 hQ
def s46 : Spec := fun args m Q => ∃ (s r : Sl) (a : Ar) (D : List Nat) (i : Int) (v : Vl), args = [vA s r a, .int .i64 i, vVl v] ∧ Wo m s r a D ∧ 0 ≤ i ∧ i + 1 < a.ws.length ∧ a.ws.length ≤ 2 ^ 20 ∧ ∀ m', (∀ b, b ∉ D → m' b = m b) → Wo m' s r (putV a i v) D → Q (vA s r (putV a i v)) m'
theorem f46 (t : Tab) : ∀ args m Q, s46 args m Q → FA Tryz.prog (look t) kp46 Tryz.f46 args m Q := by
 rintro args m Q ⟨s, r, a, D, i, v, rfl, hW, i0, i1, hl, hQ⟩
 show FA Tryz.prog (look t) kp46 Tryz.f46 [aG s r a, .int .i64 i, .agg #[.int .i64 v.1, .int .i64 v.2]] m Q
 rw [e46]
 refine newA_intro fun g1 m1 hg1 e1 hb1 hle1 => newA_intro fun gv m2 hgv e2 hbv hle2 => newA_intro fun g3 m3 hg3 e3 hb3 hle3 => ?_
 have l2 := Mem.le_trans hle1 hle2
 have l3 := Mem.le_trans l2 hle3
 have p1 : m3 g1 = some (.cells (cA s r a) 29 (0, 0)) := hle3 _ _ (hle2 _ _ hb1)
 have im := hW.loc hg1 p1 l3
 have n13 : g1 ≠ g3 := ne_of_none hg3 (hle2 _ _ hb1)
 have z3 := le_none l2 hg3
 have d3 := hW.fresh z3
 have dv := hW.fresh (le_none hle1 hgv)
 have hbv3 := hle3 _ _ hbv
 have w1 : IntKind.i64.wrap (i + 1) = i + 1 := w64 (by omega) (by omega)
 refine ⟨_, _, _, cell_of im.p 0, _, cell_of hbv3 0, ?_⟩
 refine im.put_w i0 (by omega) fun m4 o4 im4 => ?_
 refine ⟨_, _, _, cell_of im4.p 0, _, cell_of ((o4 gv dv).trans hbv3) 1, ?_⟩
 rw [w1]
 refine im4.put_w (by omega) (by show i + 1 < ((setW a.ws _ _).length : Int); rw [setW_len]; exact i1) fun m5 o5 im5 => ?_
 have h5 : m5 g3 = some (.cells zAr 29 (0, 0)) := by rw [o5 g3 d3, o4 g3 d3]; exact hb3
 have O5 : Off D m m5 := ((Off.of_le l3).trans (Off.of_eq o4)).trans (Off.of_eq o5)
 exact (arT_ok (b := putV a i v) im5 h5 z3 d3 O5 hQ : arT Q g1 g3 m5)
def akN (Q : Value → Mem → Prop) (g1 g3 : Nat) (m4 : Mem) : Prop :=
 shN_9 (fun _ _ _ _ => True) Q m4 g1 g3
def akW (call : FuncId → Spec) (Q : Value → Mem → Prop) (a2 : Int) (g1 g3 g514 : Nat) (m516 : Mem) : Prop :=
 (∃ y595 : Int, (ciN m516 g1 3 y595 ∧ (∃ S597 : Mem → Prop, S597 m516 ∧ (∃ (ra598 : Option Addr) (rn599 rc600 : Nat), ((hsN S597 g1 0 ra598 rn599 rc600) ∧ (∃ y602 : Int, ((hiN S597 g514 0 y602) ∧ (∃ y604 : Int, ((hiN S597 g514 1 y604) ∧ (∃ y606 : Int, ((hiN S597 g514 2 y606) ∧ (call 79 [(.agg #[(.int .i64 y602), (.int .i64 y604), (.int .i64 y606)])] m516 fun v608 m609 => (∃ y610 : Int, (∃ b611 : Bool, (v608 = (.tuple #[(.int .u64 y610), (.bool b611)]) ∧ (S597 m609 ∧ (optA ra598 fun d612 => (0 ≤ y595 ∧ y595 < ((rn599 : Nat) : Int) ∧ (stoA m609 (d612.add (Int.toNat y595 * 1)) [(.int .u64 y610)] fun m613 => (S597 m613 ∧ (∃ k614 : Nat, L45_19 call k614 Q a2 g1 g3 ((IntKind.i64.wrap (a2 + (1 : Int)))) y595 ((1 : Int)) m613)))))))))))))))))))))
def akB (call : FuncId → Spec) (Q : Value → Mem → Prop) (a2 : Int) (g1 g3 g514 : Nat) (m516 : Mem) : Prop :=
 (∃ y517 : Int, (ciN m516 g1 8 y517 ∧ (stoA m516 ⟨g514, 2, none⟩ [(.int .i64 y517)] fun m519 => (∃ y520 : Int, (ciN m519 g1 8 y520 ∧ (stoA m519 ⟨g1, 8, none⟩ [(.int .i64 (IntKind.i64.wrap (y520 + (1 : Int))))] fun m522 => (∃ y523 : Int, (ciN m522 g1 3 y523 ∧ (∃ S525 : Mem → Prop, S525 m522 ∧ (∃ (ra526 : Option Addr) (rn527 rc528 : Nat), ((hsN S525 g1 0 ra526 rn527 rc528) ∧ (∃ y530 : Int, ((hiN S525 g514 0 y530) ∧ (∃ y532 : Int, ((hiN S525 g514 1 y532) ∧ (∃ y534 : Int, ((hiN S525 g514 2 y534) ∧ (call 79 [(.agg #[(.int .i64 y530), (.int .i64 y532), (.int .i64 y534)])] m522 fun v536 m537 => (∃ y538 : Int, (∃ b539 : Bool, (v536 = (.tuple #[(.int .u64 y538), (.bool b539)]) ∧ (S525 m537 ∧ (optA ra526 fun d540 => (0 ≤ y523 ∧ y523 < ((rn527 : Nat) : Int) ∧ (stoA m537 (d540.add (Int.toNat y523 * 1)) [(.int .u64 y538)] fun m541 => (S525 m541 ∧ (∃ k542 : Nat, L45_19 call k542 Q a2 g1 g3 ((IntKind.i64.wrap (a2 + (1 : Int)))) y523 ((1 : Int)) m541)))))))))))))))))))))))))))
def akP (call : FuncId → Spec) (Q : Value → Mem → Prop) (a1 a2 : Int) (g1 g3 : Nat) (m218 : Mem) : Prop :=
 shN_11 call Q m218 g1 a2 g3 a1
def akR (call : FuncId → Spec) (Q : Value → Mem → Prop) (a1 a2 : Int) (g1 g3 : Nat) (m192 : Mem) : Prop :=
 shN_12 call Q m192 g1 a2 g3 a1
theorem akN_ok {Q : Value → Mem → Prop} {g1 g3 : Nat} {s r : Sl} {b : Ar} {D : List Nat} {M m0 : Mem} (im : Im M g1 s r b D) (h3 : M g3 = some (.cells zAr 29 (0, 0))) (z3 : m0 g3 = none) (d3 : g3 ∉ D)
   (hO : Off D m0 M) (hQ : ∀ m', (∀ b, b ∉ D → m' b = m0 b) → Wo m' s r b D → Q (.tuple #[vA s r b, .int .i64 0, .int .i64 2]) m') : akN Q g1 g3 M := by
 unfold akN
 obtain ⟨wa, wn, wc⟩ := s
 obtain ⟨ra, rn, rc⟩ := r
 refine ⟨_, _, _, cell_of im.p 0, _, cell_of im.p 1, _, cell_of im.p 2, _, cell_of im.p 3, _, cell_of im.p 4, _, cell_of im.p 5, _, cell_of im.p 6, _, cell_of im.p 7, _, cell_of im.p 8, _, _, _, cell_of im.p 9, ?_⟩
 refine sto_ar h3 fun m1 e1 q1 ne1 => ?_
 have p3 : Ptr m1 g3 ⟨wa, wn, wc⟩ ⟨ra, rn, rc⟩ b := q1
 refine ⟨_, _, _, cell_of p3 0, _, cell_of p3 1, _, cell_of p3 2, _, cell_of p3 3, _, cell_of p3 4, _, cell_of p3 5, _, cell_of p3 6, _, cell_of p3 7, _, cell_of p3 8, _, _, _, cell_of p3 9, ?_⟩
 exact ret_off (hO.fresh z3 ne1) (hQ _ (fun b hb => mix_off hb) (Wo.mix (im.w.ext fun q hq => ne1 q (fun e => d3 (e ▸ hq)))))
theorem ak_loop {call : FuncId → Spec} {Q : Value → Mem → Prop} {g1 g3 : Nat} {s r : Sl} {D : List Nat} {m0 : Mem} {n p : Int} {a : Ar} (z1 : m0 g1 = none) (z3 : m0 g3 = none) (d3 : g3 ∉ D) (n31 : g3 ≠ g1) (n0 : 0 ≤ n) (nb : n ≤ 256) (p0 : 0 ≤ p) (p1 : p + n + 1 ≤ a.ws.length) (p2 : a.ws.length ≤ 2 ^ 20)
   (hQ : ∀ m', (∀ b, b ∉ D → m' b = m0 b) → Wo m' s r { a with ws := clrW a.ws (p + 1) n.toNat, top := p + (n + 1) } D → Q (.tuple #[vA s r { a with ws := clrW a.ws (p + 1) n.toNat, top := p + (n + 1) }, .int .i64 p, .int .i64 0]) m') :
   ∀ (d i : Nat), (i : Int) + d = n → ∀ M, Im M g1 s r { a with ws := clrW a.ws (p + 1) i } D → Off D m0 M → M g3 = some (.cells zAr 29 (0, 0)) → L45_19 call (d + 1) Q n g1 g3 (n + 1) p ((i : Int) + 1) M := by
 intro d
 induction d with
 | zero =>
   intro i hi M im hO h3
   rw [l45_19]
   refine ⟨M, Mem.le_refl _, ?_⟩
   rw [if_neg (by simp; omega), w64 (x := p + (n + 1)) (by omega) (by omega)]
   have ei : i = n.toNat := by omega
   subst ei
   refine im.fld 3 _ { a with ws := clrW a.ws (p + 1) n.toNat, top := p + (n + 1) } rfl (by decide) rfl rfl rfl fun m1 o1 im1 => ?_
   have h31 := (o1 g3 n31).trans h3
   obtain ⟨wa, wn, wc⟩ := s
   obtain ⟨ra, rn, rc⟩ := r
   refine ⟨_, _, _, cell_of im1.p 0, _, cell_of im1.p 1, _, cell_of im1.p 2, _, cell_of im1.p 3, _, cell_of im1.p 4, _, cell_of im1.p 5, _, cell_of im1.p 6, _, cell_of im1.p 7, _, cell_of im1.p 8, _, _, _, cell_of im1.p 9, ?_⟩
   refine sto_ar h31 fun m2 e2 q2 ne2 => ?_
   have p3 : Ptr m2 g3 ⟨wa, wn, wc⟩ ⟨ra, rn, rc⟩ { a with ws := clrW a.ws (p + 1) n.toNat, top := p + (n + 1) } := q2
   refine ⟨_, _, _, cell_of p3 0, _, cell_of p3 1, _, cell_of p3 2, _, cell_of p3 3, _, cell_of p3 4, _, cell_of p3 5, _, cell_of p3 6, _, cell_of p3 7, _, cell_of p3 8, _, _, _, cell_of p3 9, ?_⟩
   exact ret_off ((hO.fresh z1 o1).fresh z3 ne2) (hQ _ (fun b hb => mix_off hb) (Wo.mix (im1.w.ext fun q hq => ne2 q (fun e => d3 (e ▸ hq)))))
 | succ d ih =>
   intro i hi M im hO h3
   rw [l45_19]
   refine ⟨M, Mem.le_refl _, ?_⟩
   rw [if_pos (by simp; omega), w64 (x := p + ((i : Int) + 1)) (by omega) (by omega), w64 (x := (i : Int) + 1 + 1) (by omega) (by omega)]
   refine ⟨_, _, _, cell_of im.p 0, ?_⟩
   have hlen : (clrW a.ws (p + 1) i).length = a.ws.length := clrW_len _ _ _
   refine im.put_w (by omega) (by show p + (↑i + 1) < ((clrW a.ws (p + 1) i).length : Int); omega) fun m1 o1 im1 => ?_
   have e : setW (clrW a.ws (p + 1) i) (p + ((i : Int) + 1)) 0 = clrW a.ws (p + 1) (i + 1) := by
     show _ = setW (clrW a.ws (p + 1) i) (p + 1 + i) 0
     congr 1
     omega
   have im2 : Im m1 g1 s r { a with ws := clrW a.ws (p + 1) (i + 1) } D := by rw [← e]; exact im1
   exact ih (i + 1) (by omega) m1 im2 (hO.trans (Off.of_eq o1)) ((o1 g3 d3).trans h3)
theorem akW_ok (t : Tab) (h79 : look t 79 = s79) {Q : Value → Mem → Prop} {g1 g3 g6 : Nat} {s r : Sl} {a : Ar} {D : List Nat} {M m0 : Mem} {k n z : Int} (im : Im M g1 s r a D) (hO : Off D m0 M) (z1 : m0 g1 = none) (z3 : m0 g3 = none) (d3 : g3 ∉ D) (n31 : g3 ≠ g1) (h3 : M g3 = some (.cells zAr 29 (0, 0))) (d6 : g6 ∉ D)
   (hh : M g6 = some (.cells #[.int .i64 k, .int .i64 n, .int .i64 z] 72 (0, 0))) (hok : hdOk k n z = true) (t0 : 0 ≤ a.top) (t1 : a.top + n + 1 ≤ a.ws.length) (t2 : a.ws.length ≤ 2 ^ 20)
   (hQ : ∀ m', (∀ b, b ∉ D → m' b = m0 b) → Wo m' s r (putW k n z a) D → Q (.tuple #[vA s r (putW k n z a), .int .i64 a.top, .int .i64 0]) m') : akW (look t) Q n g1 g3 g6 M := by
 have b := hd_b hok
 unfold akW
 refine ⟨_, cell_of im.p 3, fun q => q g1 = M g1 ∧ q g6 = M g6, ⟨rfl, rfl⟩, _, _, _, fun q hq => cell_of (hq.1.trans im.p) 0, _, fun q hq => cell_of (hq.2.trans hh) 0, _, fun q hq => cell_of (hq.2.trans hh) 1, _, fun q hq => cell_of (hq.2.trans hh) 2, ?_⟩
 refine via h79 ⟨k, n, z, rfl, by omega, ?_⟩
 rw [hok, if_pos rfl]
 refine ⟨_, _, rfl, ⟨rfl, rfl⟩, ?_⟩
 refine im.put_w t0 (by omega) fun m1 o1 im1 => ⟨⟨o1 g1 im.g, o1 g6 d6⟩, n.toNat + 1, ?_⟩
 rw [w64 (x := n + 1) (by omega) (by omega)]
 exact ak_loop (a := { a with ws := setW a.ws a.top (packH k n z) }) z1 z3 d3 n31 (by omega) (by omega) t0 (by show a.top + n + 1 ≤ ((setW a.ws _ _).length : Int); rw [setW_len]; exact t1) (by show (setW a.ws _ _).length ≤ _; rw [setW_len]; exact t2) hQ n.toNat 0 (by omega) m1 im1 (hO.trans (Off.of_eq o1)) ((o1 g3 d3).trans h3)
theorem akB_ok (t : Tab) (h79 : look t 79 = s79) {Q : Value → Mem → Prop} {g1 g3 g6 : Nat} {s r : Sl} {a : Ar} {D : List Nat} {M m0 : Mem} {k n : Int} (im : Im M g1 s r a D) (hO : Off D m0 M) (z1 : m0 g1 = none) (z3 : m0 g3 = none) (d3 : g3 ∉ D) (n31 : g3 ≠ g1) (n61 : g6 ≠ g1) (n63 : g6 ≠ g3) (z6 : m0 g6 = none) (h3 : M g3 = some (.cells zAr 29 (0, 0))) (d6 : g6 ∉ D)
   (hh : M g6 = some (.cells #[.int .i64 k, .int .i64 n, .int .i64 0] 72 (0, 0))) (hok : hdOk k n a.ser = true) (t0 : 0 ≤ a.top) (t1 : a.top + n + 1 ≤ a.ws.length) (t2 : a.ws.length ≤ 2 ^ 20)
   (hQ : ∀ m', (∀ b, b ∉ D → m' b = m0 b) → Wo m' s r { putW k n a.ser a with ser := a.ser + 1 } D → Q (.tuple #[vA s r { putW k n a.ser a with ser := a.ser + 1 }, .int .i64 a.top, .int .i64 0]) m') : akB (look t) Q n g1 g3 g6 M := by
 have b := hd_b hok
 unfold akB
 refine ⟨_, cell_of im.p 8, sto (c := #[.int .i64 k, .int .i64 n, .int .i64 0]) (t := 72) hh rfl (by simp) fun m4 e4 h4 ne4 => ?_⟩
 have h4 : m4 g6 = some (.cells #[.int .i64 k, .int .i64 n, .int .i64 a.ser] 72 (0, 0)) := h4
 have im4 := im.ext (m' := m4) fun q hq => ne4 q fun h => by
   rw [h] at hq
   rcases List.mem_cons.1 hq with e | e
   · exact n61 e
   · exact d6 e
 refine ⟨_, cell_of im4.p 8, ?_⟩
 rw [w64 (x := a.ser + 1) (by omega) (by omega)]
 refine im4.fld 8 _ { a with ser := a.ser + 1 } rfl (by decide) rfl rfl rfl fun m5 o5 im5 => ?_
 have h5 : m5 g6 = some (.cells #[.int .i64 k, .int .i64 n, .int .i64 a.ser] 72 (0, 0)) := by rw [o5 g6 n61]; exact h4
 have h35 : m5 g3 = some (.cells zAr 29 (0, 0)) := by rw [o5 g3 n31, ne4 g3 (Ne.symm n63)]; exact h3
 exact akW_ok t h79 im5 ((hO.fresh z6 ne4).fresh z1 o5) z1 z3 d3 n31 h35 d6 h5 hok t0 t1 t2 hQ
theorem akP_ok (t : Tab) (h79 : look t 79 = s79) (h77 : look t 77 = s77) {Q : Value → Mem → Prop} {g1 g3 : Nat} {s r : Sl} {a : Ar} {D : List Nat} {M m0 : Mem} {k n : Int} (im : Im M g1 s r a D) (hO : Off D m0 M) (z1 : m0 g1 = none) (z3 : m0 g3 = none) (d3 : g3 ∉ D) (n31 : g3 ≠ g1) (h3 : M g3 = some (.cells zAr 29 (0, 0)))
   (hsz : sizeB k n = true) (hN : NumP a) (hQ : ∀ m', (∀ b, b ∉ D → m' b = m0 b) → Wo m' s r (putA k n a).1 D → Q (.tuple #[vA s r (putA k n a).1, .int .i64 (putA k n a).2.1, .int .i64 (putA k n a).2.2]) m') : akP (look t) Q k n g1 g3 M := by
 unfold akP
 have hfl := free_le hN
 have sm := hN.sm
 have s1 := sm.s1
 have hl := sm.l
 have hz0 := hN.z0
 have hz1 := hN.z1
 have hok : hdOk k n (if bornB k = true then a.ser else 0) = true := by
   unfold hdOk
   rw [hsz]
   cases bornB k with
   | true => simp; omega
   | false => simp
 have b := hd_b hok
 have w1 : IntKind.i64.wrap (n + 1) = n + 1 := w64 (by omega) (by omega)
 refine ⟨_, _, _, cell_of im.p 0, _, cell_of im.p 1, _, cell_of im.p 2, _, cell_of im.p 3, _, cell_of im.p 4, _, cell_of im.p 5, _, cell_of im.p 6, _, cell_of im.p 7, _, cell_of im.p 8, _, _, _, cell_of im.p 9, ?_⟩
 refine via h77 ⟨s, r, a, rfl, hN, _, rfl, ?_⟩
 by_cases c : n + 1 > freeA a
 · rw [if_pos (by rw [w1]; simpa using c)]
   have e : putA k n a = (a, 0, 2) := if_pos c
   rw [e] at hQ
   exact (akN_ok im h3 z3 d3 hO hQ : akN Q g1 g3 M)
 rw [if_neg (by rw [w1]; simpa using c)]
 have e : putA k n a = (if bornB k = true then { putW k n a.ser a with ser := a.ser + 1 } else putW k n 0 a, a.top, 0) := if_neg c
 rw [e] at hQ
 refine newA_intro fun g6 m2 hg6 e2 hb2 hle2 => sto (c := #[.int .i64 0, .int .i64 0, .int .i64 0]) (t := 72) hb2 rfl (by simp) fun m3 e3 h6 ne3 => ?_
 have h6 : m3 g6 = some (.cells #[.int .i64 k, .int .i64 n, .int .i64 0] 72 (0, 0)) := h6
 have n6 := im.fresh hg6
 have d6 : g6 ∉ D := fun h => n6 (by simp [h])
 have n61 : g6 ≠ g1 := fun h => n6 (by simp [h])
 have n63 : g6 ≠ g3 := fun h => by rw [h, h3] at hg6; cases hg6
 have z6 : m0 g6 = none := hO.none hg6 d6
 have le3 : Mem.le M m3 := le_other hle2 hg6 ne3
 have im3 := im.le le3
 have hO3 : Off D m0 m3 := hO.trans (Off.of_le le3)
 have h33 := le3 _ _ h3
 have t1 : a.top + n + 1 ≤ a.ws.length := by omega
 have t2 : a.ws.length ≤ 2 ^ 20 := by omega
 cases hb : bornB k with
 | true =>
   rw [hb] at hok hQ
   have B : akB (look t) Q n g1 g3 g6 m3 := akB_ok t h79 im3 hO3 z1 z3 d3 n31 n61 n63 z6 h33 d6 h6 hok (by omega) t1 t2 hQ
   unfold bornB at hb
   rw [decide_eq_true_eq] at hb
   by_cases c2 : k = 2
   · rw [if_pos (by rw [c2]; rfl)]
     exact B
   rw [if_neg (by simpa using c2)]
   by_cases c4 : k = 4
   · rw [if_pos (by rw [c4]; rfl)]
     exact B
   have hk6 : k = 6 := by omega
   rw [if_neg (by simpa using c4), if_pos (by rw [hk6]; rfl)]
   exact B
 | false =>
   rw [hb] at hok hQ
   have B : akW (look t) Q n g1 g3 g6 m3 := akW_ok t h79 im3 hO3 z1 z3 d3 n31 h33 d6 h6 hok (by omega) t1 t2 hQ
   unfold bornB at hb
   rw [decide_eq_false_iff_not] at hb
   rw [if_neg (by simp; omega), if_neg (by simp; omega), if_neg (by simp; omega)]
   exact B
theorem akR_ok (t : Tab) (h79 : look t 79 = s79) (h77 : look t 77 = s77) (h78 : look t 78 = s78) {Q : Value → Mem → Prop} {g1 g3 : Nat} {s r : Sl} {a : Ar} {D : List Nat} {M m0 : Mem} {k n : Int} (im : Im M g1 s r a D) (hO : Off D m0 M) (z1 : m0 g1 = none) (z3 : m0 g3 = none) (d3 : g3 ∉ D) (n31 : g3 ≠ g1) (h3 : M g3 = some (.cells zAr 29 (0, 0)))
   (hsz : sizeB k n = true) (hG : OkC a) (hQ : ∀ m', (∀ b, b ∉ D → m' b = m0 b) → Wo m' s r (putA k n (roomA n a)).1 D → Q (.tuple #[vA s r (putA k n (roomA n a)).1, .int .i64 (putA k n (roomA n a)).2.1, .int .i64 (putA k n (roomA n a)).2.2]) m') : akR (look t) Q k n g1 g3 M := by
 unfold akR
 have hN := hG.num.1
 have hfl := free_le hN
 have sm := hN.sm
 have s1 := sm.s1
 have hl := sm.l
 have bn : 1 ≤ n ∧ n ≤ 256 := by
   have := hd_b (k := k) (s := n) (z := if bornB k = true then 1 else 0) (by unfold hdOk; rw [hsz]; cases bornB k <;> simp)
   omega
 have w1 : IntKind.i64.wrap (n + 1) = n + 1 := w64 (by omega) (by omega)
 refine ⟨_, _, _, cell_of im.p 0, _, cell_of im.p 1, _, cell_of im.p 2, _, cell_of im.p 3, _, cell_of im.p 4, _, cell_of im.p 5, _, cell_of im.p 6, _, cell_of im.p 7, _, cell_of im.p 8, _, _, _, cell_of im.p 9, ?_⟩
 refine via h77 ⟨s, r, a, rfl, hN, _, rfl, ?_⟩
 have hr := (room_ok (n := n) hG).1.num.1
 by_cases c : n + 1 > freeA a
 · rw [if_pos (by rw [w1]; simpa using c)]
   have e : roomA n a = collA a := if_pos c
   rw [e] at hQ hr
   refine ⟨_, _, _, cell_of im.p 0, _, cell_of im.p 1, _, cell_of im.p 2, _, cell_of im.p 3, _, cell_of im.p 4, _, cell_of im.p 5, _, cell_of im.p 6, _, cell_of im.p 7, _, cell_of im.p 8, _, _, _, cell_of im.p 9, ?_⟩
   refine via h78 ⟨s, r, a, D, rfl, im.w, hG, fun m1 o1 w1 => ⟨_, _, _, _, _, _, _, _, _, _, _, _, _, _, rfl, ?_⟩⟩
   have p1 : Ptr m1 g1 s r a := by unfold Ptr; rw [o1 g1 im.g]; exact im.p
   refine put_all p1 w1 im.g fun m2 o2 im2 => ?_
   have h32 : m2 g3 = some (.cells zAr 29 (0, 0)) := by rw [o2 g3 n31, o1 g3 d3]; exact h3
   exact (akP_ok t h79 h77 im2 ((hO.trans (Off.of_eq o1)).fresh z1 o2) z1 z3 d3 n31 h32 hsz hr hQ : akP (look t) Q k n g1 g3 m2)
 · rw [if_neg (by rw [w1]; simpa using c)]
   have e : roomA n a = a := if_neg c
   rw [e] at hQ
   exact (akP_ok t h79 h77 im hO z1 z3 d3 n31 h3 hsz hN hQ : akP (look t) Q k n g1 g3 M)
def s45 : Spec := fun args m Q => ∃ (s r : Sl) (a : Ar) (D : List Nat) (k n : Int), args = [vA s r a, .int .i64 k, .int .i64 n] ∧ Wo m s r a D ∧ OkC a ∧ sizeB k n = true ∧
 ∀ m', (∀ b, b ∉ D → m' b = m b) → Wo m' s r (askA k n a).1 D → Q (.tuple #[vA s r (askA k n a).1, .int .i64 (askA k n a).2.1, .int .i64 (askA k n a).2.2]) m'
set_option maxHeartbeats 1000000 in
theorem f45 (t : Tab) (h79 : look t 79 = s79) (h77 : look t 77 = s77) (h78 : look t 78 = s78) (h75 : look t 75 = s75) (h76 : look t 76 = s76) (h74 : look t 74 = s74) (h73 : look t 73 = s73) : ∀ args m Q, s45 args m Q → FA Tryz.prog (look t) kp45 Tryz.f45 args m Q := by
 rintro args m Q ⟨s, r, a, D, k, n, rfl, hW, hG, hsz, hQ⟩
 have bn : 1 ≤ n ∧ n ≤ 256 := by
   have := hd_b (k := k) (s := n) (z := if bornB k = true then 1 else 0) (by unfold hdOk; rw [hsz]; cases bornB k <;> simp)
   omega
 have hN := hG.num.1
 have sm := hN.sm
 have s0 := sm.s0
 have s1 := sm.s1
 have t0 := sm.t0
 have t1 := sm.t1
 have hl := sm.l
 have w1 : IntKind.i64.wrap (n + 1) = n + 1 := w64 (by omega) (by omega)
 have w2 : IntKind.i64.wrap (a.semi - 1) = a.semi - 1 := w64 (by omega) (by omega)
 show FA Tryz.prog (look t) kp45 Tryz.f45 [aG s r a, .int .i64 k, .int .i64 n] m Q
 rw [e45]
 refine newA_intro fun g1 m1 hg1 e1 hb1 hle1 => newA_intro fun g3 m2 hg3 e2 hb3 hle2 => ?_
 have l2 := Mem.le_trans hle1 hle2
 have p1 : m2 g1 = some (.cells (cA s r a) 29 (0, 0)) := hle2 _ _ hb1
 have im := hW.loc hg1 p1 l2
 have n31 : g3 ≠ g1 := Ne.symm (ne_of_none hg3 hb1)
 have z3 := le_none hle1 hg3
 have d3 := hW.fresh z3
 have hO : Off D m m2 := Off.of_le l2
 refine ⟨_, cell_of im.p 1, ?_⟩
 rw [w2]
 by_cases c : n + 1 > a.semi - 1
 · rw [if_pos (by rw [w1]; simpa using c)]
   have e : askA k n a = (a, 0, 2) := if_pos c
   rw [e] at hQ
   exact (akN_ok im hb3 z3 d3 hO hQ : akN Q g1 g3 m2)
 rw [if_neg (by rw [w1]; simpa using c)]
 have e : askA k n a = putA k n (roomA n (paceA a)) := if_neg c
 rw [e] at hQ
 obtain ⟨p1', p2⟩ := pace_ok hG
 have tail : ∀ (b : Ar) (M m4 : Mem), Im M g1 s r b D → Off D m M → M g3 = some (.cells zAr 29 (0, 0)) → (∀ q, q ∉ D → m4 q = M q) → ∀ (c : Ar), paceA a = c → Wo m4 s r c D → ∀ (K : Mem → Prop), (∀ m5, akR (look t) Q k n g1 g3 m5 → K m5) → stoA m4 ⟨g1, 0, none⟩ [.slice s.a s.n s.c, .int .i64 c.semi, .int .i64 c.to, .int .i64 c.top, .bool c.cyc, .int .i64 c.scan, .int .i64 c.old, .int .i64 c.cop, .int .i64 c.ser, .slice r.a r.n r.c] K := by
   intro b M m4 imb hOb h3b o4 c hc w4 K hK
   have p4 : Ptr m4 g1 s r b := by unfold Ptr; rw [o4 g1 imb.g]; exact imb.p
   refine put_all p4 w4 imb.g fun m5 o5 im5 => hK m5 ?_
   subst hc
   exact akR_ok t h79 h77 h78 im5 ((hOb.trans (Off.of_eq o4)).fresh hg1 o5) hg1 z3 d3 n31 (by rw [o5 g3 n31, o4 g3 d3]; exact h3b) hsz p1' hQ
 by_cases hc : a.cyc = true
 · have ep : paceA a = stepsA 2 (overA a) := if_pos hc
   refine ⟨Mem.le m2, Mem.le_refl _, _, held (cell_of im.p 4), ?_⟩
   rw [hc, if_neg (by decide)]
   refine ⟨_, cell_of im.p 4, ?_⟩
   rw [if_pos hc]
   refine ⟨_, _, _, cell_of im.p 0, _, cell_of im.p 1, _, cell_of im.p 2, _, cell_of im.p 3, _, cell_of im.p 4, _, cell_of im.p 5, _, cell_of im.p 6, _, cell_of im.p 7, _, cell_of im.p 8, _, _, _, cell_of im.p 9, ?_⟩
   refine via h76 ⟨s, r, a, D, rfl, im.w, fun m3 o3 w3 => ⟨_, _, _, _, _, _, _, _, _, _, _, _, _, _, rfl, ?_⟩⟩
   refine via h75 ⟨s, r, overA a, D, 2, rfl, w3, hG.over.1, by decide, by decide, fun m4 k4 o4 w4 => ⟨_, _, _, _, _, _, _, _, _, _, _, _, _, _, _, rfl, ?_⟩⟩
   exact tail a m2 m4 im hO hb3 (fun q hq => (o4 q hq).trans (o3 q hq)) _ ep w4 _ fun m5 h => h
 · have hcf : a.cyc = false := by simpa using hc
   refine ⟨Mem.le m2, Mem.le_refl _, _, held (cell_of im.p 4), ?_⟩
   rw [hcf, if_pos (by decide)]
   obtain ⟨T1, hI⟩ : ∃ T1, I0 a T1 := by
     rcases hG with h | ⟨T1, T2, h⟩
     · exact h
     · exact absurd h.c.cy hc
   have hh := halves hN
   have w3 : IntKind.i64.wrap (a.top - startA a a.to) = a.top - startA a a.to := w64 (by omega) (by omega)
   have w4 : IntKind.i64.wrap (2 * (a.top - startA a a.to)) = 2 * (a.top - startA a a.to) := w64 (by omega) (by omega)
   refine ⟨_, held (cell_of im.p 3), _, _, _, held (cell_of im.p 0), _, held (cell_of im.p 1), _, held (cell_of im.p 2), _, held (cell_of im.p 3), _, held (cell_of im.p 4), _, held (cell_of im.p 5), _, held (cell_of im.p 6), _, held (cell_of im.p 7), _, held (cell_of im.p 8), _, _, _, held (cell_of im.p 9), _, held (cell_of im.p 2), _, held (cell_of im.p 1), ?_⟩
   refine via h73 ⟨s, r, a, a.to, rfl, t0, t1, by omega, s1, _, rfl, Mem.le_refl _, ?_⟩
   rw [w3, w4, w2]
   by_cases hd : 2 * (a.top - startA a a.to) > a.semi - 1
   · have ep : paceA a = stepsA 2 (overA (flipA a)) := by unfold paceA; rw [if_neg hc, if_pos hd]
     rw [if_pos (by simpa using hd)]
     obtain ⟨g1', g2', g3'⟩ := flip_gd hI
     refine ⟨_, _, _, cell_of im.p 0, _, cell_of im.p 1, _, cell_of im.p 2, _, cell_of im.p 3, _, cell_of im.p 4, _, cell_of im.p 5, _, cell_of im.p 6, _, cell_of im.p 7, _, cell_of im.p 8, _, _, _, cell_of im.p 9, ?_⟩
     refine via h74 ⟨s, r, a, D, rfl, im.w, ⟨T1, hI⟩, fun m3 o3 w3' => ⟨_, _, _, _, _, _, _, _, _, _, _, _, _, _, rfl, ?_⟩⟩
     have p3 : Ptr m3 g1 s r a := by unfold Ptr; rw [o3 g1 im.g]; exact im.p
     refine put_all p3 w3' im.g fun m4 o4 im4 => ?_
     have hO4 : Off D m m4 := (hO.trans (Off.of_eq o3)).fresh hg1 o4
     have h34 : m4 g3 = some (.cells zAr 29 (0, 0)) := by rw [o4 g3 n31, o3 g3 d3]; exact hb3
     refine ⟨_, cell_of im4.p 4, ?_⟩
     cases hfc : (flipA a).cyc with
     | true =>
       rw [if_pos rfl]
       refine ⟨_, _, _, cell_of im4.p 0, _, cell_of im4.p 1, _, cell_of im4.p 2, _, cell_of im4.p 3, _, cell_of im4.p 4, _, cell_of im4.p 5, _, cell_of im4.p 6, _, cell_of im4.p 7, _, cell_of im4.p 8, _, _, _, cell_of im4.p 9, ?_⟩
       refine via h76 ⟨s, r, flipA a, D, rfl, im4.w, fun m5 o5 w5 => ⟨_, _, _, _, _, _, _, _, _, _, _, _, _, _, rfl, ?_⟩⟩
       refine via h75 ⟨s, r, overA (flipA a), D, 2, rfl, w5, g1'.okC.over.1, by decide, by decide, fun m6 k6 o6 w6 => ⟨_, _, _, _, _, _, _, _, _, _, _, _, _, _, _, rfl, ?_⟩⟩
       exact tail (flipA a) m4 m6 im4 hO4 h34 (fun q hq => (o6 q hq).trans (o5 q hq)) _ ep w6 _ fun m5 h => h
     | false =>
       rw [if_neg (by decide)]
       have e5 : paceA a = flipA a := by rw [ep, g1'.over]; exact steps_idle 2 hfc
       rw [e5] at hQ p1'
       exact (akR_ok t h79 h77 h78 im4 hO4 hg1 z3 d3 n31 h34 hsz p1' hQ : akR (look t) Q k n g1 g3 m4)
   · have ep : paceA a = a := by unfold paceA; rw [if_neg hc, if_neg hd]
     rw [if_neg (by simpa using hd)]
     refine ⟨_, cell_of im.p 4, ?_⟩
     rw [hcf, if_neg (by decide)]
     rw [ep] at hQ p1'
     exact (akR_ok t h79 h77 h78 im hO hg1 z3 d3 n31 hb3 hsz p1' hQ : akR (look t) Q k n g1 g3 m2)
theorem own_emp {α : Type} [Enc α] (m : Mem) : OwnL m ⟨none, 0, 0⟩ ([] : List α) [] := ⟨rfl, .inl ⟨rfl, rfl, rfl, rfl⟩⟩
theorem own_one {α : Type} [Enc α] {m : Mem} {g : Nat} {t : TypeId} (h : m g = some (.cells #[] t (0, 0))) : OwnL m ⟨some ⟨g, 0, none⟩, 0, 0⟩ ([] : List α) [g] := ⟨rfl, .inr ⟨g, t, [], rfl, rfl, h, by simp⟩⟩
theorem le_new {m M : Mem} {D : List Nat} (h : ∀ b, b ∉ D → M b = m b) (hD : ∀ b ∈ D, m b = none) : Mem.le m M := fun b o ho => by
 rw [h b fun hb => by rw [hD b hb] at ho; cases ho]
 exact ho
def s60 : Spec := fun args m Q => ∃ (s : Sl) (l : List U64), args = [vs s] ∧ s.n = l.length ∧ Rd m s.a l ∧ l.length ≤ 2 ^ 20 ∧ ∀ (s' : Sl) (D : List Nat) (M : Mem), Mem.le m M → OwnL M s' l D → (∀ b ∈ D, m b = none) → Q (vs s') M
theorem f60 (t : Tab) : ∀ args m Q, s60 args m Q → FA Tryz.prog (look t) kp60 Tryz.f60 args m Q := by
 rintro args m Q ⟨⟨sa, sn, sc⟩, l, rfl, hn, hR, hl, hQ⟩
 have hn : sn = l.length := hn
 have hR : Rd m sa l := hR
 show FA Tryz.prog (look t) kp60 Tryz.f60 [.slice sa sn sc] m Q
 rw [e60]
 refine newA_intro fun g1 m2 hg1 e2 hb1 hle2 => ?_
 refine app_sl (α := U64) (s := ⟨some ⟨g1, 0, none⟩, 0, 0⟩) (D := [g1]) (l := []) (l2 := l) rfl rfl (by decide) (by decide) (by decide) (own_one hb1) hn.symm (hR.le hle2) (by simp; omega) fun s' D' m' k1 k2 k3 k4 k5 => ?_
 obtain ⟨ta, tn, tc⟩ := s'
 have k1 : tn = 0 + sn := k1
 subst k1
 have hD : ∀ b ∈ D', m b = none := fun b hb => by
   rcases k4 with k4 | k4
   · rw [k4, List.mem_singleton] at hb; rw [hb]; exact hg1
   · exact le_none hle2 (k4 b hb)
 refine ret_intro (Mem.le_refl _) (hQ ⟨ta, 0 + sn, tc⟩ D' m' (fun b o ho => ?_) k2 hD)
 have hb : b ∉ D' := fun hb => by rw [hD b hb] at ho; cases ho
 rw [k3 b hb]
 exact hle2 _ _ ho
def s62 : Spec := s60
theorem f62 (t : Tab) : ∀ args m Q, s62 args m Q → FA Tryz.prog (look t) kp62 Tryz.f62 args m Q := by
 rintro args m Q ⟨⟨sa, sn, sc⟩, l, rfl, hn, hR, hl, hQ⟩
 have hn : sn = l.length := hn
 have hR : Rd m sa l := hR
 show FA Tryz.prog (look t) kp62 Tryz.f62 [.slice sa sn sc] m Q
 rw [e62]
 refine app_sl (α := U64) (s := ⟨none, 0, 0⟩) (D := []) (l := []) (l2 := l) rfl rfl (by decide) (by decide) (by decide) (own_emp m) hn.symm hR (by simp; omega) fun s' D' m' k1 k2 k3 k4 k5 => ?_
 obtain ⟨ta, tn, tc⟩ := s'
 have k1 : tn = 0 + sn := k1
 subst k1
 have hD : ∀ b ∈ D', m b = none := fun b hb => by
   rcases k4 with k4 | k4
   · rw [k4] at hb; cases hb
   · exact k4 b hb
 exact ret_intro (Mem.le_refl _) (hQ ⟨ta, 0 + sn, tc⟩ D' m' (le_new k3 hD) k2 hD)
def CpK (m : Mem) (a : Ar) (K : Value → Mem → Prop) : Prop := ∀ (s' r' : Sl) (D : List Nat) (M : Mem), Mem.le m M → Wo M s' r' a D → (∀ b ∈ D, m b = none) → K (vA s' r' a) M
def cpT (Q : Value → Mem → Prop) (g1 g3 : Nat) (m24 : Mem) : Prop :=
 shN_2 (fun _ _ _ _ => True) Q m24 g1 g3
theorem cpT_ok {Q : Value → Mem → Prop} {g1 g3 : Nat} {s r : Sl} {a : Ar} {D1 D2 : List Nat} {M m : Mem} (p : Ptr M g1 s r a) (o1 : OwnL M s a.ws D1) (o2 : OwnL M r a.rs D2) (h3 : M g3 = some (.cells zAr 29 (0, 0))) (n3 : g3 ∉ D1 ++ D2) (z3 : m g3 = none) (hd : ∀ b ∈ D1, b ∉ D2) (hf : ∀ b ∈ D1 ++ D2, m b = none) (hl : Mem.le m M) (hQ : CpK m a Q) : cpT Q g1 g3 M := by
 unfold cpT
 obtain ⟨wa, wn, wc⟩ := s
 obtain ⟨ra, rn, rc⟩ := r
 refine ⟨_, _, _, cell_of p 0, _, cell_of p 1, _, cell_of p 2, _, cell_of p 3, _, cell_of p 4, _, cell_of p 5, _, cell_of p 6, _, cell_of p 7, _, cell_of p 8, _, _, _, cell_of p 9, ?_⟩
 refine sto_ar h3 fun m1 e1 q1 ne1 => ?_
 have p3 : Ptr m1 g3 ⟨wa, wn, wc⟩ ⟨ra, rn, rc⟩ a := q1
 refine ⟨_, _, _, cell_of p3 0, _, cell_of p3 1, _, cell_of p3 2, _, cell_of p3 3, _, cell_of p3 4, _, cell_of p3 5, _, cell_of p3 6, _, cell_of p3 7, _, cell_of p3 8, _, _, _, cell_of p3 9, ?_⟩
 have L : Mem.le m m1 := le_other hl z3 ne1
 have o1' := o1.ext (m' := m1) fun b hb => ne1 b fun e => n3 (by rw [← e]; simp [hb])
 have o2' := o2.ext (m' := m1) fun b hb => ne1 b fun e => n3 (by rw [← e]; simp [hb])
 exact ret_intro (Mem.le_refl _) (hQ _ _ (D1 ++ D2) m1 L ⟨D1, D2, o1', o2', rfl, List.nodup_append.2 ⟨own_nd o1, own_nd o2, fun x hx y hy e => hd x hx (e ▸ hy)⟩⟩ hf)
def s27 : Spec := fun args m Q => ∃ (s r : Sl) (a : Ar), args = [vA s r a] ∧ ArAt m s r a ∧ a.wf ∧ CpK m a Q
theorem f27 (t : Tab) (h60 : look t 60 = s60) : ∀ args m Q, s27 args m Q → FA Tryz.prog (look t) kp27 Tryz.f27 args m Q := by
 rintro args m Q ⟨s, r, a, rfl, hA, hw, hQ⟩
 show FA Tryz.prog (look t) kp27 Tryz.f27 [aG s r a] m Q
 rw [e27]
 refine newA_intro fun g1 m1 hg1 e1 hb1 hle1 => newA_intro fun g3 m2 hg3 e2 hb3 hle2 => ?_
 have l2 := Mem.le_trans hle1 hle2
 have p1 : m2 g1 = some (.cells (cA s r a) 29 (0, 0)) := hle2 _ _ hb1
 have n13 : g1 ≠ g3 := ne_of_none hg3 hb1
 have z3 := le_none hle1 hg3
 refine ⟨_, _, _, cell_of p1 0, via h60 ⟨s, a.ws, rfl, hA.n.symm, hA.w.le l2, hw.n, fun s' D1 M hle o1 f1 => ?_⟩⟩
 obtain ⟨wa, wn, wc⟩ := s'
 have p1' := hle _ _ p1
 refine ⟨_, _, _, rfl, sto p1' rfl (by show 0 + 1 ≤ 10; decide) fun m3 e3 q3 ne3 => ?_⟩
 have q3 : Ptr m3 g1 ⟨wa, wn, wc⟩ r a := q3
 have b3 : m3 g3 = some (.cells zAr 29 (0, 0)) := (ne3 g3 (Ne.symm n13)).trans (hle _ _ hb3)
 have d11 : g1 ∉ D1 := fun h => by have := f1 g1 h; rw [p1] at this; cases this
 have d13 : g3 ∉ D1 := fun h => by have := f1 g3 h; rw [hb3] at this; cases this
 have o13 := o1.ext (m' := m3) fun b hb => ne3 b fun e => d11 (e ▸ hb)
 have L3 : Mem.le m m3 := le_other (Mem.le_trans l2 hle) hg1 ne3
 refine newA_intro fun g5 m4 hg5 e4 hb5 hle4 => ⟨_, _, _, cell_of (hle4 _ _ q3) 9, ?_⟩
 refine app_sl (α := Vl) (s := ⟨some ⟨g5, 0, none⟩, 0, 0⟩) (D := [g5]) (l := []) (l2 := a.rs) rfl rfl (by decide) (by decide) (by decide) (own_one hb5) hA.k ((hA.r.le L3).le hle4) (by have := hA.k; have := hw.r; simp; omega) fun t' D2 m5 k1 k2 k3 k4 k5 => ?_
 obtain ⟨ta, tn, tc⟩ := t'
 have k1 : tn = 0 + r.n := k1
 subst k1
 have hD : ∀ b ∈ D2, m3 b = none := fun b hb => by
   rcases k4 with k4 | k4
   · rw [k4, List.mem_singleton] at hb; rw [hb]; exact hg5
   · exact le_none hle4 (k4 b hb)
 have L5 : Mem.le m3 m5 := fun b o ho => by
   rw [k3 b fun hb => by rw [hD b hb] at ho; cases ho]
   exact hle4 _ _ ho
 refine sto (L5 _ _ q3) rfl (by show 9 + 1 ≤ 10; decide) fun m6 e6 q6 ne6 => ?_
 have q6 : Ptr m6 g1 ⟨wa, wn, wc⟩ ⟨ta, 0 + r.n, tc⟩ a := q6
 have d21 : g1 ∉ D2 := fun h => by have h1 := hD g1 h; have h2 : m3 g1 = _ := q3; rw [h2] at h1; cases h1
 have d23 : g3 ∉ D2 := fun h => by have h1 := hD g3 h; rw [b3] at h1; cases h1
 have o16 := (o13.ext (m' := m5) fun b hb => by obtain ⟨o, ho⟩ := o13.live b hb; rw [ho, L5 _ _ ho]).ext (m' := m6) fun b hb => ne6 b fun e => d11 (e ▸ hb)
 have o26 := k2.ext (m' := m6) fun b hb => ne6 b fun e => d21 (e ▸ hb)
 refine cpT_ok q6 o16 o26 ((ne6 g3 (Ne.symm n13)).trans (L5 _ _ b3)) (fun h => by rcases List.mem_append.1 h with h | h; exact d13 h; exact d23 h) z3 (fun b hb hb2 => by obtain ⟨o, ho⟩ := o13.live b hb; rw [hD b hb2] at ho; cases ho) (fun b hb => ?_) (le_other (Mem.le_trans L3 L5) hg1 ne6) hQ
 rcases List.mem_append.1 hb with h | h
 · exact le_none l2 (f1 b h)
 · exact le_none L3 (hD b h)
def s31 : Spec := s27
theorem f31 (t : Tab) (h62 : look t 62 = s62) : ∀ args m Q, s31 args m Q → FA Tryz.prog (look t) kp31 Tryz.f31 args m Q := by
 rintro args m Q ⟨s, r, a, rfl, hA, hw, hQ⟩
 show FA Tryz.prog (look t) kp31 Tryz.f31 [aG s r a] m Q
 rw [e31]
 refine newA_intro fun g1 m1 hg1 e1 hb1 hle1 => newA_intro fun g3 m2 hg3 e2 hb3 hle2 => ?_
 have l2 := Mem.le_trans hle1 hle2
 have p1 : m2 g1 = some (.cells (cA s r a) 29 (0, 0)) := hle2 _ _ hb1
 have n13 : g1 ≠ g3 := ne_of_none hg3 hb1
 have z3 := le_none hle1 hg3
 refine ⟨_, _, _, cell_of p1 0, via h62 ⟨s, a.ws, rfl, hA.n.symm, hA.w.le l2, hw.n, fun s' D1 M hle o1 f1 => ?_⟩⟩
 obtain ⟨wa, wn, wc⟩ := s'
 have p1' := hle _ _ p1
 refine ⟨_, _, _, rfl, sto p1' rfl (by show 0 + 1 ≤ 10; decide) fun m3 e3 q3 ne3 => ?_⟩
 have q3 : Ptr m3 g1 ⟨wa, wn, wc⟩ r a := q3
 have b3 : m3 g3 = some (.cells zAr 29 (0, 0)) := (ne3 g3 (Ne.symm n13)).trans (hle _ _ hb3)
 have d11 : g1 ∉ D1 := fun h => by have := f1 g1 h; rw [p1] at this; cases this
 have d13 : g3 ∉ D1 := fun h => by have := f1 g3 h; rw [hb3] at this; cases this
 have o13 := o1.ext (m' := m3) fun b hb => ne3 b fun e => d11 (e ▸ hb)
 have L3 : Mem.le m m3 := le_other (Mem.le_trans l2 hle) hg1 ne3
 refine ⟨_, _, _, cell_of q3 9, ?_⟩
 refine app_sl (α := Vl) (s := ⟨none, 0, 0⟩) (D := []) (l := []) (l2 := a.rs) rfl rfl (by decide) (by decide) (by decide) (own_emp m3) hA.k (hA.r.le L3) (by have := hA.k; have := hw.r; simp; omega) fun t' D2 m5 k1 k2 k3 k4 k5 => ?_
 obtain ⟨ta, tn, tc⟩ := t'
 have k1 : tn = 0 + r.n := k1
 subst k1
 have hD : ∀ b ∈ D2, m3 b = none := fun b hb => by
   rcases k4 with k4 | k4
   · rw [k4] at hb; cases hb
   · exact k4 b hb
 have L5 : Mem.le m3 m5 := le_new k3 hD
 refine sto (L5 _ _ q3) rfl (by show 9 + 1 ≤ 10; decide) fun m6 e6 q6 ne6 => ?_
 have q6 : Ptr m6 g1 ⟨wa, wn, wc⟩ ⟨ta, 0 + r.n, tc⟩ a := q6
 have d21 : g1 ∉ D2 := fun h => by have h1 := hD g1 h; have h2 : m3 g1 = _ := q3; rw [h2] at h1; cases h1
 have d23 : g3 ∉ D2 := fun h => by have h1 := hD g3 h; rw [b3] at h1; cases h1
 have o16 := (o13.ext (m' := m5) fun b hb => by obtain ⟨o, ho⟩ := o13.live b hb; rw [ho, L5 _ _ ho]).ext (m' := m6) fun b hb => ne6 b fun e => d11 (e ▸ hb)
 have o26 := k2.ext (m' := m6) fun b hb => ne6 b fun e => d21 (e ▸ hb)
 refine cpT_ok q6 o16 o26 ((ne6 g3 (Ne.symm n13)).trans (L5 _ _ b3)) (fun h => by rcases List.mem_append.1 h with h | h; exact d13 h; exact d23 h) z3 (fun b hb hb2 => by obtain ⟨o, ho⟩ := o13.live b hb; rw [hD b hb2] at ho; cases ho) (fun b hb => ?_) (le_other (Mem.le_trans L3 L5) hg1 ne6) hQ
 rcases List.mem_append.1 hb with h | h
 · exact le_none l2 (f1 b h)
 · exact le_none L3 (hD b h)
def s26 : Spec := fun args m Q => ∃ (s r : Sl) (a : Ar) (x : Int), args = [vA s r a, .int .i64 x] ∧ ArAt m s r a ∧ a.wf ∧ Q (.bool (decide (0 ≤ x ∧ x < a.rs.length))) m
theorem f26 (t : Tab) (h44 : look t 44 = s44) : ∀ args m Q, s26 args m Q → FA Tryz.prog (look t) kp26 Tryz.f26 args m Q := by
 rintro args m Q ⟨s, r, a, x, rfl, hA, hw, hQ⟩
 show FA Tryz.prog (look t) kp26 Tryz.f26 [aG s r a, .int .i64 x] m Q
 rw [e26]
 have hk := hA.k
 have hr := hw.r
 refine newA_intro fun g m2 hg1 e2 hb1 hle2 => ⟨_, _, _, cell_of hb1 9, ?_⟩
 rw [w64 (x := (r.n : Int) - 1) (by omega) (by omega)]
 refine via h44 ⟨_, _, _, rfl, _, rfl, ret_bool hle2 hQ ?_⟩
 apply Bool.eq_iff_iff.2
 rw [decide_eq_true_eq, decide_eq_true_eq]
 omega
def s33 : Spec := fun args m Q => ∃ (g : Nat) (s r l : Sl) (a : Ar) (xs : List Int), args = [.pointer (some ⟨g, 0, none⟩), vs l] ∧ Ptr m g s r a ∧ ArAt m s r a ∧ a.wf ∧ l.n = xs.length ∧ Rd m l.a xs ∧ xs.length ≤ 2 ^ 20 ∧ Q (.bool (decide (∀ x ∈ xs, 0 ≤ x ∧ x < a.rs.length))) m
theorem f33 (t : Tab) (h47 : look t 47 = s47) : ∀ args m Q, s33 args m Q → FA Tryz.prog (look t) kp33 Tryz.f33 args m Q := by
 rintro args m Q ⟨g, s, r, ⟨la, ln, lc⟩, a, xs, rfl, hP, hA, hw, hn, hR, hxl, hQ⟩
 have hn : ln = xs.length := hn
 have hR : Rd m la xs := hR
 show FA Tryz.prog (look t) kp33 Tryz.f33 [.pointer (some ⟨g, 0, none⟩), .slice la ln lc] m Q
 rw [e33]
 have hk := hA.k
 have hr := hw.r
 suffices key : ∀ (d i : Nat), i + d = xs.length → (∀ j : Nat, (h : j < xs.length) → j < i → 0 ≤ xs[j] ∧ xs[j] < a.rs.length) → L33_2 (look t) (d + 1) Q g la ln lc (ln : Int) (i : Int) m from ⟨xs.length + 1, key xs.length 0 (by omega) fun j _ hj => by omega⟩
 intro d
 induction d with
 | zero =>
   intro i hi hz
   rw [l33_2]
   refine ⟨m, Mem.le_refl _, ?_⟩
   rw [if_neg (by simp; omega)]
   refine ret_bool (Mem.le_refl _) hQ (Eq.symm (decide_eq_true fun x hx => ?_))
   obtain ⟨j, hj, e⟩ := List.mem_iff_getElem.1 hx
   rw [← e]
   exact hz j hj (by omega)
 | succ d ih =>
   intro i hi hz
   have hlt : i < xs.length := by omega
   rw [l33_2]
   refine ⟨m, Mem.le_refl _, ?_⟩
   rw [if_pos (by simp; omega), wsucc (n := 2 ^ 20) (by omega) (by decide)]
   refine li hR hn.symm (by omega) (by omega) fun ad had hd => ⟨_, hd _ (Mem.le_refl _), _, _, _, cell_of hP 9, ?_⟩
   rw [gi_mem hlt, w64 (x := (r.n : Int) - 1) (by omega) (by omega)]
   refine via h47 ⟨_, _, _, rfl, _, rfl, ?_⟩
   by_cases c : 0 ≤ xs[i] ∧ xs[i] ≤ (r.n : Int) - 1
   · rw [decide_eq_true c, if_neg (by decide)]
     refine ih (i + 1) (by omega) fun j hj hj2 => ?_
     by_cases e : j = i
     · subst e; omega
     · exact hz j hj (by omega)
   · rw [decide_eq_false c, if_pos (by decide)]
     refine ret_bool (Mem.le_refl _) hQ (Eq.symm (decide_eq_false fun h => c ?_))
     have := h xs[i] (List.getElem_mem _)
     omega
theorem ask_ok {a : Ar} {k n : Int} (h : OkC a) (hsz : sizeB k n = true) : (askA k n a).1.ws.length = a.ws.length ∧ (askA k n a).1.rs.length = a.rs.length ∧ a.ws.length ≤ 8000 ∧
   ((askA k n a).2.2 = 0 → 1 ≤ (askA k n a).2.1 ∧ (askA k n a).2.1 + n + 1 ≤ a.ws.length) := by
 have sm := h.num.1.sm
 have s1 := sm.s1
 have hl := sm.l
 unfold askA
 split
 · exact ⟨rfl, rfl, by omega, fun e => by cases e⟩
 · obtain ⟨p1, p2⟩ := pace_ok h
   obtain ⟨r1, r2⟩ := room_ok (n := n) p1
   have sz := p2.trans r2
   have hN := r1.num.1
   have hf := free_le hN
   generalize roomA n (paceA a) = b at *
   have l1 := sz.len
   have l2 := sz.rl
   unfold putA
   split
   · exact ⟨l1, l2, by omega, fun e => by cases e⟩
   · refine ⟨?_, ?_, by omega, fun _ => ⟨?_, ?_⟩⟩
     · show (if bornB k = true then _ else _ : Ar).ws.length = _
       split
       · show (clrW (setW b.ws _ _) _ _).length = _
         rw [clrW_len, setW_len]; exact l1
       · show (clrW (setW b.ws _ _) _ _).length = _
         rw [clrW_len, setW_len]; exact l1
     · show (if bornB k = true then _ else _ : Ar).rs.length = _
       split
       · exact l2
       · exact l2
     · show 1 ≤ b.top
       omega
     · show b.top + n + 1 ≤ _
       omega
def ncK (m : Mem) (q : Ar × Int) (Q : Value → Mem → Prop) : Prop := ∀ (s' r' : Sl) (D : List Nat) (M : Mem), Mem.le m M → Wo M s' r' q.1 D → (∀ b ∈ D, m b = none) → Q (.tuple #[vA s' r' q.1, .int .i64 q.2]) M
theorem ret_nc {Q : Value → Mem → Prop} {g1 g3 : Nat} {s r : Sl} {q : Ar × Int} {D : List Nat} {M m : Mem} (im : Im M g1 s r q.1 D) (h3 : M g3 = some (.cells zAr 29 (0, 0))) (z3 : m g3 = none) (d3 : g3 ∉ D)
   (hO : Off D m M) (hD : ∀ b ∈ D, m b = none) (hQ : ncK m q Q) : stT Q g1 g3 q.2 M :=
 stT_ok im h3 z3 d3 hO fun m' o w => hQ s r D m' (le_new o hD) w hD
end Go.Proofs.YtpdcjocjkbgddaaGreat.Abs
namespace Go.Proofs.YtpdcjocjkbgddaaGreat.Abs
open Go.ChangeShapes Go.WideShapes Go.RowKit
def toT (a : Ar) : ArT := (a.ws, a.semi, a.to, a.top, a.cyc, a.scan, a.old, a.cop, a.ser, a.rs)
def hT (s r : Sl) (a : Ar) : ArH := (s, a.semi, a.to, a.top, a.cyc, a.scan, a.old, a.cop, a.ser, r)
theorem own_wo {m : Mem} {s r : Sl} {a : Ar} {D : List Nat} (h : Wo m s r a D) : dAr.Own m (hT s r a) (toT a) D := by
 obtain ⟨D1, D2, o1, o2, hD, hn⟩ := h
 exact ⟨D1, D2, hD, o1, [], D2, rfl, ⟨rfl, rfl⟩, [], D2, rfl, ⟨rfl, rfl⟩, [], D2, rfl, ⟨rfl, rfl⟩, [], D2, rfl, ⟨rfl, rfl⟩, [], D2, rfl, ⟨rfl, rfl⟩, [], D2, rfl, ⟨rfl, rfl⟩, [], D2, rfl, ⟨rfl, rfl⟩, [], D2, rfl, ⟨rfl, rfl⟩, o2⟩
theorem Wo.nd {m : Mem} {s r : Sl} {a : Ar} {D : List Nat} (h : Wo m s r a D) : D.Nodup := by
 obtain ⟨D1, D2, o1, o2, hD, hn⟩ := h
 exact hn
def makA (q : ArT → Ar × Int) (m : Mem) (h : ArH) (x : ArT) (Q : Value → Mem → Prop) : Prop := atC m h x ∧ okAr x ∧ bgAr x ∧ ∀ (h' : dAr.H) (D : List Nat) (m' : Mem), Mem.le m m' → (∀ b ∈ D, m b = none) → D.Nodup → dAr.Own m' h' (toT (q x).1) D → Q (.tuple #[vAr h', .int .i64 (q x).2]) m'
theorem makA.nc {q : ArT → Ar × Int} {m : Mem} {h : ArH} {x : ArT} {Q : Value → Mem → Prop} (hq : makA q m h x Q) : vAr h = vA h.1 h.2.2.2.2.2.2.2.2.2 (arOf x) ∧ ArAt m h.1 h.2.2.2.2.2.2.2.2.2 (arOf x) ∧ (arOf x).wf ∧ ncK m (q x) Q := by
 obtain ⟨hA, hok, hbg, hQ⟩ := hq
 obtain ⟨a, e⟩ := hA.ar
 exact ⟨e, a, wf_of hok hbg, fun s' r' D M hle hO hD => hQ (hT s' r' (q x).1) D M hle hD hO.nd (own_wo hO)⟩
theorem okAr_of {q : Ar} {x : ArT} (h : okAr x) (k : q.ws.length = (arOf x).ws.length ∧ q.rs.length = (arOf x).rs.length) : okAr (toT q) := by
 refine ⟨?_, ?_⟩
 · show q.ws.length ≤ _
   rw [k.1]; exact h.1
 · show q.rs.length ≤ _
   rw [k.2]; exact h.2
end Go.Proofs.YtpdcjocjkbgddaaGreat.Abs
namespace Go.Proofs.YtpdcjocjkbgddaaGreat.Abs
open Go.RowKit
inductive Reach (a : Ar) : Int → Prop
 | root (j : Nat) (hj : j < a.rs.length) (hr : isRefB (a.rs.getD j (0, 0)) = true) : Reach a (whereW a.ws (a.rs.getD j (0, 0)).2)
 | slot (q x : Int) (h : Reach a q) (hx : x ∈ slotsL (kdW a.ws q) (szW a.ws q)) (hr : isRefB (valW a.ws (q + x)) = true) : Reach a (whereW a.ws (valW a.ws (q + x)).2)
def valC (ws ws' : List U64) (f : Int → Int) (v v' : Vl) : Prop := v'.1 = v.1 ∧ (isRefB v = false → v' = v) ∧ (isRefB v = true → whereW ws' v'.2 = f (whereW ws v.2))
theorem valC.ref {ws ws' : List U64} {f : Int → Int} {v v' : Vl} (h : valC ws ws' f v v') : isRefB v' = isRefB v := by unfold isRefB; rw [h.1]
theorem valC.trans {ws ws1 ws2 : List U64} {f g : Int → Int} {u v w : Vl} (h : valC ws ws1 f u v) (k : valC ws1 ws2 g v w) : valC ws ws2 (fun q => g (f q)) u w :=
 ⟨k.1.trans h.1, fun e => (k.2.1 (by rw [h.ref]; exact e)).trans (h.2.1 e), fun e => by rw [k.2.2 (by rw [h.ref]; exact e), h.2.2 e]⟩
structure ObjC (ws ws' : List U64) (f : Int → Int) (q : Int) : Prop where
 hd : gw ws' (f q) = gw ws q
 raw : ∀ y : Int, 1 ≤ y → y ≤ szW ws q → (∀ x ∈ slotsL (kdW ws q) (szW ws q), y ≠ x ∧ y ≠ x + 1) → gw ws' (f q + y) = gw ws (q + y)
 sl : ∀ x ∈ slotsL (kdW ws q) (szW ws q), valC ws ws' f (valW ws (q + x)) (valW ws' (f q + x))
structure SmF (a b : Ar) (f : Int → Int) : Prop where
 o : ∀ q, Reach a q → ObjC a.ws b.ws f q
 i : ∀ q r, Reach a q → Reach a r → f q = f r → q = r
 rl : b.rs.length = a.rs.length
 r : ∀ j : Nat, j < a.rs.length → valC a.ws b.ws f (a.rs.getD j (0, 0)) (b.rs.getD j (0, 0))
def Sm (a b : Ar) : Prop := ∃ f, SmF a b f
theorem SmF.reach {a b : Ar} {f : Int → Int} (h : SmF a b f) {q : Int} (hq : Reach a q) : Reach b (f q) := by
 induction hq with
 | root j hj hr =>
   have r := h.r j hj
   have := Reach.root (a := b) j (by rw [h.rl]; exact hj) (by rw [r.ref]; exact hr)
   rwa [r.2.2 hr] at this
 | slot q x hq hx hr ih =>
   have o := h.o q hq
   have s := o.sl x hx
   have := Reach.slot (a := b) (f q) x ih (by rw [kd_c o.hd, sz_c o.hd]; exact hx) (by rw [s.ref]; exact hr)
   rwa [s.2.2 hr] at this
theorem SmF.back {a b : Ar} {f : Int → Int} (h : SmF a b f) {q : Int} (hq : Reach b q) : ∃ p, Reach a p ∧ f p = q := by
 induction hq with
 | root j hj hr =>
   have hj' : j < a.rs.length := by rw [← h.rl]; exact hj
   have r := h.r j hj'
   have hr' := hr
   rw [r.ref] at hr'
   exact ⟨_, Reach.root j hj' hr', (r.2.2 hr').symm⟩
 | slot q x hq hx hr ih =>
   obtain ⟨p, hp, rfl⟩ := ih
   have o := h.o p hp
   rw [kd_c o.hd, sz_c o.hd] at hx
   have s := o.sl x hx
   have hr' := hr
   rw [s.ref] at hr'
   exact ⟨_, Reach.slot p x hp hx hr', (s.2.2 hr').symm⟩
theorem SmF.trans {a b c : Ar} {f g : Int → Int} (h : SmF a b f) (k : SmF b c g) : SmF a c fun q => g (f q) := by
 refine ⟨fun q hq => ?_, fun q r hq hr e => h.i q r hq hr (k.i _ _ (h.reach hq) (h.reach hr) e), k.rl.trans h.rl, fun j hj => (h.r j hj).trans (k.r j (by rw [h.rl]; exact hj))⟩
 have A := h.o q hq
 have B := k.o _ (h.reach hq)
 refine ⟨B.hd.trans A.hd, fun y y0 y1 hy => ?_, fun x hx => ?_⟩
 · rw [B.raw y y0 (by rw [sz_c A.hd]; exact y1) (by rw [kd_c A.hd, sz_c A.hd]; exact hy), A.raw y y0 y1 hy]
 · exact (A.sl x hx).trans (B.sl x (by rw [kd_c A.hd, sz_c A.hd]; exact hx))
theorem Sm.trans {a b c : Ar} (h : Sm a b) (k : Sm b c) : Sm a c := by
 obtain ⟨f, h⟩ := h
 obtain ⟨g, k⟩ := k
 exact ⟨_, h.trans k⟩
theorem Sm.flds {a b : Ar} (hw : b.ws = a.ws) (hr : b.rs = a.rs) : Sm a b := by
 refine ⟨fun q => q, fun q hq => ⟨by rw [hw], fun y _ _ _ => by rw [hw], fun x _ => ⟨by rw [hw], fun _ => by rw [hw], fun _ => by rw [hw]⟩⟩, fun q r _ _ e => e, by rw [hr], fun j hj => ⟨by rw [hr], fun _ => by rw [hr], fun _ => by rw [hr, hw]⟩⟩
theorem Sm.refl (a : Ar) : Sm a a := Sm.flds rfl rfl
def Rc (a : Ar) (T1 T2 : List Int) : Prop := ∀ j : Nat, j < a.rs.length → isRefB (a.rs.getD j (0, 0)) = true → (a.rs.getD j (0, 0)).2 ∈ T1 ∨ (a.rs.getD j (0, 0)).2 ∈ T2
def Live (a : Ar) (T1 T2 : List Int) (q : Int) : Prop := q ∈ T1 ∨ q ∈ T2 ∧ okW (gw a.ws q) = true
theorem where_no {ws : List U64} {p : Int} (h : (fwd (gw ws p)).2 = false) : whereW ws p = p := by unfold whereW; rw [h]; rfl
theorem where_ok {a : Ar} (hw : a.wf) {p : Int} (h : okW (gw a.ws p) = true) : whereW a.ws p = p := where_no (ok_fwd (gw_in hw.w p) h)
theorem where_c {ws ws' : List U64} {p : Int} (h : gw ws' p = gw ws p) : whereW ws' p = whereW ws p := by unfold whereW; rw [h]
theorem C0.where1 {a : Ar} {T1 T2 : List Int} (h : C0 a T1 T2) {p : Int} (hp : p ∈ T1) : whereW a.ws p = p := where_ok h.wf (h.h1 p hp)
theorem C0.where2 {a : Ar} {T1 T2 : List Int} (h : C0 a T1 T2) {p : Int} (hp : p ∈ T2) : okW (gw a.ws p) = true ∧ whereW a.ws p = p ∨ (Abs.fwd (gw a.ws p)).2 = true ∧ whereW a.ws p = toW a.ws p ∧ toW a.ws p ∈ T1 := by
 rcases h.h2 p hp with k | ⟨k, k2⟩
 · exact .inl ⟨k, where_ok h.wf k⟩
 · refine .inr ⟨k, ?_, k2⟩
   unfold whereW toW
   rw [if_pos k]
theorem C0.live {a : Ar} {T1 T2 : List Int} (h : C0 a T1 T2) {p : Int} (hp : p ∈ T1 ∨ p ∈ T2) : Live a T1 T2 (whereW a.ws p) := by
 rcases hp with hp | hp
 · rw [h.where1 hp]; exact .inl hp
 · rcases h.where2 hp with ⟨k, e⟩ | ⟨k, e, k2⟩
   · rw [e]; exact .inr ⟨hp, k⟩
   · rw [e]; exact .inl k2
theorem C0.refs {a : Ar} {T1 T2 : List Int} (h : C0 a T1 T2) {q x : Int} (hq : Live a T1 T2 q) (hx : x ∈ slotsL (kdW a.ws q) (szW a.ws q)) (hr : isRefB (valW a.ws (q + x)) = true) : (valW a.ws (q + x)).2 ∈ T1 ∨ (valW a.ws (q + x)).2 ∈ T2 := by
 rcases hq with hq | ⟨hq, ho⟩
 · exact (h.v1 q hq x hx).2 hr
 · exact .inr ((h.v2 q hq ho x hx).2 hr)
theorem C0.okL {a : Ar} {T1 T2 : List Int} (h : C0 a T1 T2) {q : Int} (hq : Live a T1 T2 q) : okW (gw a.ws q) = true := hq.elim (h.h1 q) fun k => k.2
theorem C0.canon {a : Ar} {T1 T2 : List Int} (h : C0 a T1 T2) (hr : Rc a T1 T2) {q : Int} (hq : Reach a q) : Live a T1 T2 q := by
 induction hq with
 | root j hj hv => exact h.live (hr j hj hv)
 | slot q x _ hx hv ih => exact h.live (h.refs ih hx hv)
theorem fwdW_where {a : Ar} {T1 T2 : List Int} (h : C0 a T1 T2) {p : Int} (hp : p ∈ T2) (ho : okW (gw a.ws p) = true) {u : Int} (hu : u ∈ T1 ∨ u ∈ T2) : whereW (fwdW a p).ws u = if whereW a.ws u = p then a.top else whereW a.ws u := by
 have n := h.nums
 have i2 := h.in2 hp
 have b := szW_0 h.wf.w p
 have hm := sumC_mem h.wf.w hp ho
 have G := fun {j : Int} (j0 : 0 ≤ j) => gw_fwd h hp ho (j := j) j0
 have hT1 : ∀ q ∈ T1, q ≠ p := fun q hq e => by subst e; have := h.in1 hq; omega
 rcases hu with hu | hu
 · have i1 := h.in1 hu
   rw [where_c (show gw (fwdW a p).ws u = gw a.ws u by rw [G (by omega), if_neg (hT1 u hu), if_neg (by omega)]), h.where1 hu, if_neg (hT1 u hu)]
 · have i3 := h.in2 hu
   by_cases e : u = p
   · subst e
     rw [where_ok h.wf ho, if_pos rfl]
     unfold whereW
     rw [G (by omega), if_pos rfl, fwd_top (by omega) (by omega)]
     rfl
   · rw [where_c (show gw (fwdW a p).ws u = gw a.ws u by rw [G (by omega), if_neg e, if_neg (by omega)])]
     rcases h.where2 hu with ⟨_, k⟩ | ⟨_, k, k2⟩
     · rw [k, if_neg e]
     · rw [k, if_neg (hT1 _ k2)]
theorem fwdW_sm {a : Ar} {T1 T2 : List Int} (h : C0 a T1 T2) (hc : Rc a T1 T2) {p : Int} (hp : p ∈ T2) (ho : okW (gw a.ws p) = true) : SmF a (fwdW a p) fun q => if q = p then a.top else q := by
 have n := h.nums
 have i2 := h.in2 hp
 have b := szW_0 h.wf.w p
 have ez : szC a.ws p = szW a.ws p := if_pos ho
 have G := fun {j : Int} (j0 : 0 ≤ j) => gw_fwd h hp ho (j := j) j0
 have hm := sumC_mem h.wf.w hp ho
 have key : ∀ q, Live a T1 T2 q → ∀ y : Int, 0 ≤ y → y ≤ szW a.ws q → gw (fwdW a p).ws ((if q = p then a.top else q) + y) = gw a.ws (q + y) := by
   intro q hq y y0 y1
   by_cases e : q = p
   · rw [if_pos e]
     subst e
     rw [G (by omega), if_neg (by omega), if_pos (by omega)]
     congr 1
     omega
   · rw [if_neg e]
     rcases hq with hq | ⟨hq, hoq⟩
     · have i1 := h.in1 hq
       rw [G (by omega), if_neg (by omega), if_neg (by omega)]
     · have i3 := h.in2 hq
       have ezq : szC a.ws q = szW a.ws q := if_pos hoq
       have ap : q < p → q + szC a.ws q + 1 ≤ p := fun hl => h.c2.apart q hq p hp hl
       rw [G (by omega), if_neg (by omega), if_neg (by omega)]
 have sm : ∀ v : Vl, (isRefB v = true → v.2 ∈ T1 ∨ v.2 ∈ T2) → valC a.ws (fwdW a p).ws (fun q => if q = p then a.top else q) v v := fun v hv => ⟨rfl, fun _ => rfl, fun e => fwdW_where h hp ho (hv e)⟩
 refine ⟨fun q hq => ?_, fun q r hq hr e => ?_, rfl, fun j hj => sm _ (hc j hj)⟩
 · have hl := h.canon hc hq
   have z := szW_0 h.wf.w q
   have k0 := key q hl 0 (by omega) z.1
   rw [Int.add_zero, Int.add_zero] at k0
   refine ⟨k0, fun y y0 y1 _ => key q hl y (by omega) y1, fun x hx => ?_⟩
   have sx := slots_in (size_ok h.wf (h.okL hl)).1 hx
   have ev : valW (fwdW a p).ws ((if q = p then a.top else q) + x) = valW a.ws (q + x) := val_c (key q hl x (by omega) (by omega)) (by have := key q hl (x + 1) (by omega) (by omega); rwa [← Int.add_assoc, ← Int.add_assoc] at this)
   show valC _ _ _ _ (valW (fwdW a p).ws ((if q = p then a.top else q) + x))
   rw [ev]
   exact sm _ (h.refs hl hx)
 · have lq := h.canon hc hq
   have lr := h.canon hc hr
   have far : ∀ r, Live a T1 T2 r → r ≠ a.top := by
     intro r hr e
     rcases hr with hr | ⟨hr, _⟩
     · have := h.in1 hr; omega
     · have := h.in2 hr; omega
   have e : (if q = p then a.top else q) = (if r = p then a.top else r) := e
   split at e <;> split at e
   · omega
   · exact absurd e.symm (far r lr)
   · exact absurd e (far q lq)
   · exact e
theorem fwdA_sm {a : Ar} {T1 T2 : List Int} (h : C0 a T1 T2) (hc : Rc a T1 T2) {v : Vl} (hv : isRefB v = true → v.2 ∈ T1 ∨ v.2 ∈ T2) :
   ∃ f, SmF a (fwdA a v).1 f ∧ (∀ u, u ∈ T1 ∨ u ∈ T2 → whereW (fwdA a v).1.ws u = f (whereW a.ws u)) ∧ (isRefB v = true → whereW (fwdA a v).1.ws (fwdA a v).2.2 = f (whereW a.ws v.2)) := by
 obtain ⟨f, hf⟩ : ∃ f : Int → Int, f = fun q => q := ⟨_, rfl⟩
 have idS : ∃ f, f = (fun q : Int => q) ∧ SmF a a f := ⟨_, rfl, fun q hq => ⟨rfl, fun y _ _ _ => rfl, fun x _ => ⟨rfl, fun _ => rfl, fun _ => rfl⟩⟩, fun q r _ _ e => e, rfl, fun j _ => ⟨rfl, fun _ => rfl, fun _ => rfl⟩⟩
 obtain ⟨f, rfl, S⟩ := idS
 unfold fwdA
 split
 · rename_i k
   obtain ⟨k1, k2⟩ := k
   have hp : v.2 ∈ T2 := (hv k1).resolve_left fun e => by rw [h.other1 e] at k2; cases k2
   split
   · rename_i k3
     refine ⟨_, S, fun u _ => rfl, fun _ => ?_⟩
     rcases h.where2 hp with ⟨k, _⟩ | ⟨_, e, k⟩
     · have := ok_fwd (gw_in h.wf.w v.2) k; rw [k3] at this; cases this
     · show whereW a.ws (toW a.ws v.2) = whereW a.ws v.2
       rw [h.where1 k, e]
   · rename_i k3
     have ho : okW (gw a.ws v.2) = true := (h.h2 _ hp).resolve_right fun e => k3 e.1
     refine ⟨_, fwdW_sm h hc hp ho, fun u hu => fwdW_where h hp ho hu, fun _ => ?_⟩
     have c1 := h.fwd hp ho
     show whereW (fwdW a v.2).ws a.top = if whereW a.ws v.2 = v.2 then a.top else whereW a.ws v.2
     rw [where_ok h.wf ho, if_pos rfl]
     exact c1.where1 (by simp)
 · exact ⟨_, S, fun u _ => rfl, fun _ => rfl⟩
theorem Rc.more {a b : Ar} {T1 T2 T1' : List Int} (h : Rc a T1 T2) (hr : b.rs = a.rs) (hs : ∀ q ∈ T1, q ∈ T1') : Rc b T1' T2 := by
 intro j hj hv
 rw [hr] at hj hv ⊢
 exact (h j hj hv).imp (hs _) id
theorem w_idem (x : Int) : IntKind.i64.wrap (IntKind.i64.wrap x) = IntKind.i64.wrap x := by
 unfold IntKind.wrap
 simp [IntKind.bits, IntKind.signed] <;> omega
theorem norm_val (ws : List U64) (i : Int) : norm (valW ws i) = valW ws i := by
 unfold norm valW
 simp only [Prod.mk.injEq, true_and]
 exact w_idem _
theorem put_sm {a : Ar} {T1 T2 : List Int} (h : C0 a T1 T2) (hc : Rc a T1 T2) {p x : Int} {v : Vl} (hp : p ∈ T1) (hx : x ∈ slotsL (kdW a.ws p) (szW a.ws p)) (hv : valOkB v = true) (hr : isRefB v = true → v.2 ∈ T1) (hn : norm v = v)
   (hC : valC a.ws a.ws (fun q => q) (valW a.ws (p + x)) v) : SmF a (putV a (p + x) v) fun q => q := by
 have n := h.nums
 have P := put_ok h hp hx hv hr
 have ip := h.in1 hp
 have sx := slots_in (size_ok h.wf (h.h1 p hp)).1 hx
 have G := fun {j : Int} (j0 : 0 ≤ j) => gw_put (a := a) (i := p + x) (v := v) (by omega) (by omega) (j := j) j0
 have far2 : ∀ q ∈ T2, ∀ y : Int, 0 ≤ y → y ≤ szC a.ws q → gw (putV a (p + x) v).ws (q + y) = gw a.ws (q + y) := by
   intro q hq y y0 y1
   have i3 := h.in2 hq
   rw [G (by omega), if_neg (by omega), if_neg (by omega)]
 have hd2 : ∀ u, u ∈ T1 ∨ u ∈ T2 → gw (putV a (p + x) v).ws u = gw a.ws u := by
   rintro u (hu | hu)
   · exact P.head u hu
   · have := far2 u hu 0 (by omega) (h.c2.mem u hu).2.1
     rwa [Int.add_zero] at this
 have sm : ∀ w : Vl, (isRefB w = true → w.2 ∈ T1 ∨ w.2 ∈ T2) → valC a.ws (putV a (p + x) v).ws (fun q => q) w w := fun w hw => ⟨rfl, fun _ => rfl, fun e => where_c (hd2 _ (hw e))⟩
 refine ⟨fun q hq => ?_, fun q r _ _ e => e, rfl, fun j hj => sm _ (hc j hj)⟩
 have hl := h.canon hc hq
 have kk : q ≠ p → ∀ y : Int, 0 ≤ y → y ≤ szW a.ws q → gw (putV a (p + x) v).ws (q + y) = gw a.ws (q + y) := by
   intro hne y y0 y1
   rcases hl with hl | ⟨hl, hol⟩
   · exact P.keep q hl hne y y0 y1
   · exact far2 q hl y y0 (by rw [show szC a.ws q = szW a.ws q from if_pos hol]; exact y1)
 refine ⟨hd2 q (hl.imp id fun k => k.1), fun y y0 y1 hy => ?_, fun y hy => ?_⟩
 · by_cases e : q = p
   · subst e
     have := hy x hx
     rw [G (by omega), if_neg (by omega), if_neg (by omega)]
   · exact kk e y (by omega) y1
 · have sy := slots_in (size_ok h.wf (h.okL hl)).1 hy
   by_cases e : q = p
   · subst e
     by_cases ex : y = x
     · subst ex
       rw [P.val, hn]
       exact ⟨hC.1, hC.2.1, fun e => (where_c (hd2 _ (.inl (hr (by rw [hC.ref]; exact e))))).trans (hC.2.2 e)⟩
     · rw [P.other y hy ex]
       exact sm _ (h.refs hl hy)
   · have ev : valW (putV a (p + x) v).ws (q + y) = valW a.ws (q + y) := val_c (kk e y (by omega) (by omega)) (by have := kk e (y + 1) (by omega) (by omega); rwa [← Int.add_assoc] at this)
     rw [ev]
     exact sm _ (h.refs hl hy)
theorem load_sm {a : Ar} {T1 T2 : List Int} (h : C0 a T1 T2) (hc : Rc a T1 T2) {p x : Int} (hp : p ∈ T1) (hx : x ∈ slotsL (kdW a.ws p) (szW a.ws p)) :
   Sm a (putV (fwdA a (valW a.ws (p + x))).1 (p + x) (fwdA a (valW a.ws (p + x))).2) := by
 obtain ⟨v1, v2⟩ := h.v1 p hp x hx
 obtain ⟨f, S, w1, w2⟩ := fwdA_sm h hc v2
 obtain ⟨Ta, F⟩ := fwd_ok h v1 v2
 have sx := slots_in (size_ok h.wf (h.h1 p hp)).1 hx
 have K0 : gw (fwdA a (valW a.ws (p + x))).1.ws p = gw a.ws p := by have := F.keep p hp 0 (by omega) (szW_0 h.wf.w p).1; rwa [Int.add_zero] at this
 have ev : valW (fwdA a (valW a.ws (p + x))).1.ws (p + x) = valW a.ws (p + x) := val_c (F.keep p hp x (by omega) (by omega)) (by have := F.keep p hp (x + 1) (by omega) (by omega); rwa [← Int.add_assoc] at this)
 have hn : norm (fwdA a (valW a.ws (p + x))).2 = (fwdA a (valW a.ws (p + x))).2 := by
   cases e : isRefB (valW a.ws (p + x)) with
   | false => rw [F.nr e]; exact norm_val _ _
   | true =>
     have e2 : isRefB (fwdA a (valW a.ws (p + x))).2 = true := by unfold isRefB at e ⊢; rw [F.tag]; exact e
     have := F.c.in1 (F.r e2)
     have := F.c.nums
     unfold norm
     rw [w64 (by omega) (by omega)]
 refine ⟨_, S.trans (put_sm F.c (hc.more F.f.rs F.sub) (F.sub p hp) (by rw [kd_c K0, sz_c K0]; exact hx) F.ok F.r hn ?_)⟩
 rw [ev]
 exact ⟨F.tag, F.nr, fun e => by rw [w2 e, w1 _ (v2 e)]⟩
theorem scS_sm {p : Int} {T2 : List Int} : ∀ (xs : List Int) (a : Ar) (T1 : List Int), C0 a T1 T2 → Rc a T1 T2 → p ∈ T1 → (∀ x ∈ xs, x ∈ slotsL (kdW a.ws p) (szW a.ws p)) → Sm a (scS p xs a)
 | [], a, T1, _, _, _, _ => Sm.refl a
 | x :: xs, a, T1, h, hc, hp, hxs => by
   have hx := hxs x (by simp)
   obtain ⟨v1, v2⟩ := h.v1 p hp x hx
   obtain ⟨Ta, F⟩ := fwd_ok h v1 v2
   have S := load_sm h hc hp hx
   have e1 : gw (fwdA a (valW a.ws (p + x))).1.ws p = gw a.ws p := by have := F.keep p hp 0 (by omega) (szW_0 h.wf.w p).1; rwa [Int.add_zero] at this
   have P := put_ok F.c (F.sub p hp) (show x ∈ slotsL (kdW (fwdA a (valW a.ws (p + x))).1.ws p) (szW (fwdA a (valW a.ws (p + x))).1.ws p) by rw [kd_c e1, sz_c e1]; exact hx) F.ok F.r
   have e2 := P.head p (F.sub p hp)
   unfold scS
   exact S.trans (scS_sm xs _ Ta P.c (hc.more (P.f.rs.trans F.f.rs) F.sub) (F.sub p hp) fun y hy => by rw [kd_c e2, sz_c e2, kd_c e1, sz_c e1]; exact hxs y (by simp [hy]))
theorem C1.rc {a : Ar} {T1 T2 : List Int} (h : C1 a T1 T2) : Rc a T1 T2 := by
 intro j hj hr
 have e : a.rs.getD j (0, 0) = a.rs[j] := by rw [List.getD_eq_getElem?_getD, List.getElem?_eq_getElem hj]; rfl
 rw [e] at hr ⊢
 exact .inl ((h.r _ (List.getElem_mem hj)).2 hr)
theorem over_sm (a : Ar) : Sm a (overA a) := by
 unfold overA
 split
 · exact Sm.flds rfl rfl
 · exact Sm.refl a
theorem scanA_sm {a : Ar} {T1 T2 : List Int} (h : C1 a T1 T2) (hne : a.scan ≠ a.top) : Sm a (scanA a) :=
 (scS_sm _ a T1 h.c h.rc (h.sc.resolve_left hne) fun x hx => hx).trans (Sm.flds rfl rfl)
theorem steps_sm : ∀ (n : Nat) (a : Ar), Gd a → Sm a (stepsA n a)
 | 0, a, _ => Sm.refl a
 | n + 1, a, h => by
   unfold stepsA
   rcases h with ⟨T1, h⟩ | ⟨T1, T2, h, hne⟩
   · rw [h.cy, if_neg (by decide)]
     exact Sm.refl a
   · rw [if_pos h.c.cy]
     obtain ⟨T1', k1, k2, k3, k4⟩ := h.scan hne
     exact (scanA_sm h hne).trans ((over_sm _).trans (steps_sm n _ k1.over.1))
theorem fin_sm {a : Ar} (h : OkC a) : Sm a (finA a) := (over_sm a).trans (steps_sm 8000 _ h.over.1)
theorem flS_sm {a : Ar} {T1 T2 : List Int} (h : C0 a T1 T2) (hc : Rc a T1 T2) {i : Nat} (hi : i < a.rs.length) (hv : valOkB (a.rs.getD i (0, 0)) = true) : Sm a (flS i a) := by
 obtain ⟨f, S, w1, w2⟩ := fwdA_sm h hc (hc i hi)
 obtain ⟨Ta, F⟩ := fwd_ok h hv (hc i hi)
 unfold flS
 refine ⟨f, S.o, S.i, by show (List.set _ _ _).length = _; rw [List.length_set]; exact S.rl, fun j hj => ?_⟩
 show valC a.ws _ f _ ((List.set (fwdA a (a.rs.getD i (0, 0))).1.rs i (fwdA a (a.rs.getD i (0, 0))).2).getD j (0, 0))
 by_cases e : i = j
 · subst e
   have : ((fwdA a (a.rs.getD i (0, 0))).1.rs.set i (fwdA a (a.rs.getD i (0, 0))).2).getD i (0, 0) = (fwdA a (a.rs.getD i (0, 0))).2 := by
     rw [List.getD_eq_getElem?_getD, List.getElem?_set_self (by rw [F.f.rs]; exact hi)]
     rfl
   rw [this]
   exact ⟨F.tag, F.nr, w2⟩
 · have : ((fwdA a (a.rs.getD i (0, 0))).1.rs.set i (fwdA a (a.rs.getD i (0, 0))).2).getD j (0, 0) = (fwdA a (a.rs.getD i (0, 0))).1.rs.getD j (0, 0) := by
     rw [List.getD_eq_getElem?_getD, List.getElem?_set_ne e, ← List.getD_eq_getElem?_getD]
   rw [this]
   exact S.r j hj
theorem FlI.rc {a : Ar} {T1 T2 : List Int} {i : Nat} (h : FlI a T1 T2 i) : Rc a T1 T2 := by
 intro j hj hr
 have e : a.rs.getD j (0, 0) = a.rs[j] := by rw [List.getD_eq_getElem?_getD, List.getElem?_eq_getElem hj]; rfl
 rw [e] at hr ⊢
 exact ((h.r j hj).2 hr).2
theorem flR_sm {T2 : List Int} : ∀ (d i : Nat) (a : Ar) (T1 : List Int), i + d = a.rs.length → FlI a T1 T2 i → Sm a (flR d i a)
 | 0, i, a, T1, _, _ => Sm.refl a
 | d + 1, i, a, T1, hi, h => by
   have hlt : i < a.rs.length := by omega
   obtain ⟨⟨v1, v2⟩, Ta, k1, k2⟩ := flS_ok hlt h
   have S := flS_sm h.c h.rc hlt v1
   unfold flR
   obtain ⟨f, S'⟩ := S
   exact (show Sm a (flS i a) from ⟨f, S'⟩).trans (flR_sm d (i + 1) (flS i a) Ta (by rw [S'.rl]; omega) k1)
theorem flip_sm {a : Ar} {T1 : List Int} (h : I0 a T1) : Sm a (flipA a) := by
 have c := flip0_ok h
 have hI : FlI (flip0 a) [] T1 0 := ⟨c, rfl, fun j hj => by
   have := h.r a.rs[j] (List.getElem_mem hj)
   exact ⟨this.1, fun hr => ⟨fun e => by omega, .inr (this.2 hr)⟩⟩⟩
 exact (show Sm a (flip0 a) from Sm.flds rfl rfl).trans ((flR_sm (flip0 a).rs.length 0 (flip0 a) [] (by omega) hI).trans (over_sm _))
theorem coll_sm {a : Ar} (h : OkC a) : Sm a (collA a) := by
 obtain ⟨⟨T1, f1⟩, f2, f3, f4⟩ := h.fin
 obtain ⟨g1, g2, g3⟩ := flip_gd f1
 exact (fin_sm h).trans ((flip_sm f1).trans (fin_sm g1.okC))
theorem slots_1 (s : Int) : slotsL 1 s = [] := by
 unfold slotsL everyK numK fromK
 rw [if_neg (by decide), if_neg (by decide), if_neg (by decide), show ((s - (s + 1) + 1) / 2).toNat = 0 by omega]
 rfl
theorem slots_2 : slotsL 2 3 = [2] := by decide
theorem slots_3 {s i : Int} (h : sizeB 3 s = true) (i0 : 0 ≤ i) (i1 : i < s / 4) : 1 + 4 * i ∈ slotsL 3 s ∧ 3 + 4 * i ∈ slotsL 3 s := by
 have hs : s = 16 ∨ s = 32 ∨ s = 64 ∨ s = 128 ∨ s = 256 := by unfold sizeB at h; simpa using h
 have ef : fromK 3 s = 1 := by unfold fromK; rw [if_neg (by decide), if_pos (by decide)]
 unfold slotsL
 rw [ef]
 constructor
 · have := mem_every (f := 1) (n := numK 1 s) (2 * i).toNat (by unfold numK; omega)
   rwa [show 1 + 2 * (((2 * i).toNat : Nat) : Int) = 1 + 4 * i by omega] at this
 · have := mem_every (f := 1) (n := numK 1 s) (2 * i + 1).toNat (by unfold numK; omega)
   rwa [show 1 + 2 * (((2 * i + 1).toNat : Nat) : Int) = 3 + 4 * i by omega] at this
structure Shp (a : Ar) : Prop where
 t : ∀ q, Reach a q → kdW a.ws q = 1 → gw a.ws (q + 1) ≤ 160 ∧ szW a.ws q = 1 + (gw a.ws (q + 1) + 7) / 8
 k : ∀ q, Reach a q → ∀ x ∈ slotsL (kdW a.ws q) (szW a.ws q), isRefB (valW a.ws (q + x)) = true → kdW a.ws (whereW a.ws (valW a.ws (q + x)).2) = kindT (valW a.ws (q + x)).1
 kr : ∀ j : Nat, j < a.rs.length → isRefB (a.rs.getD j (0, 0)) = true → kdW a.ws (whereW a.ws (a.rs.getD j (0, 0)).2) = kindT (a.rs.getD j (0, 0)).1
 rl : ∀ q, Reach a q → ∀ x ∈ slotsL (kdW a.ws q) (szW a.ws q), ruleB (kdW a.ws q) (valW a.ws (q + x)).1 = true
 tb : ∀ q, Reach a q → kdW a.ws q = 2 → (valW a.ws (q + 2)).1 = 0 ∨ (valW a.ws (q + 2)).1 = 8
 rr : ∀ j : Nat, j < a.rs.length → (a.rs.getD j (0, 0)).1 ≠ 8
 ok : ∀ q, Reach a q → okW (gw a.ws q) = true
theorem ok_tab {a : Ar} (hw : a.wf) {p : Int} (h : okW (gw a.ws p) = true) (hk : kdW a.ws p = 2) : szW a.ws p = 3 := by
 have := (size_ok hw h).1
 rw [hk] at this
 unfold sizeB at this
 simpa using this
theorem Shp.sm {a b : Ar} {f : Int → Int} (h : Shp a) (hw : a.wf) (S : SmF a b f) : Shp b := by
 refine ⟨fun q hq hk => ?_, fun q hq x hx hr => ?_, fun j hj hr => ?_, fun q hq x hx => ?_, fun q hq hk => ?_, fun j hj => ?_, fun q hq => ?_⟩
 · obtain ⟨p, hp, rfl⟩ := S.back hq
   have o := S.o p hp
   rw [kd_c o.hd] at hk
   obtain ⟨t1, t2⟩ := h.t p hp hk
   have := (gw_in hw.w (p + 1)).1
   have e := o.raw 1 (by omega) (by omega) fun x hx => by rw [hk, slots_1] at hx; cases hx
   rw [e, sz_c o.hd]
   exact ⟨t1, t2⟩
 · obtain ⟨p, hp, rfl⟩ := S.back hq
   have o := S.o p hp
   rw [kd_c o.hd, sz_c o.hd] at hx
   have s := o.sl x hx
   rw [s.ref] at hr
   have o2 := S.o _ (Reach.slot p x hp hx hr)
   rw [s.2.2 hr, kd_c o2.hd, s.1]
   exact h.k p hp x hx hr
 · rw [S.rl] at hj
   have s := S.r j hj
   rw [s.ref] at hr
   have o2 := S.o _ (Reach.root j hj hr)
   rw [s.2.2 hr, kd_c o2.hd, s.1]
   exact h.kr j hj hr
 · obtain ⟨p, hp, rfl⟩ := S.back hq
   have o := S.o p hp
   rw [kd_c o.hd, sz_c o.hd] at hx
   rw [(o.sl x hx).1, kd_c o.hd]
   exact h.rl p hp x hx
 · obtain ⟨p, hp, rfl⟩ := S.back hq
   have o := S.o p hp
   rw [kd_c o.hd] at hk
   have s := o.sl 2 (by rw [hk, ok_tab hw (h.ok p hp) hk, slots_2]; simp)
   rw [s.1]
   exact h.tb p hp hk
 · rw [S.rl] at hj
   rw [(S.r j hj).1]
   exact h.rr j hj
 · obtain ⟨p, hp, rfl⟩ := S.back hq
   rw [(S.o p hp).hd]
   exact h.ok p hp
theorem getD_mem {l : List Vl} {j : Nat} (h : j < l.length) : l.getD j (0, 0) ∈ l := by
 rw [List.getD_eq_getElem?_getD, List.getElem?_eq_getElem h]
 exact List.getElem_mem h
theorem shp_of {a : Ar} (hw : a.wf) (h : okP a) : Shp a := by
 obtain ⟨mk, h⟩ := h
 have hT := tile_ok hw h.N h.t
 have hn := hT.n
 have way : ∀ v : Vl, ∀ frm : Int, valOkB v = true → leadsB a mk v frm = true → isRefB v = true → 0 ≤ whereW a.ws v.2 ∧ whereW a.ws v.2 < mk.length ∧ hdM mk (whereW a.ws v.2) := fun v frm h1 h2 hr => by
   obtain ⟨l1, l2, l3⟩ := leads_ok h2 hr
   have := ref_pos h1 hr
   exact hT.where_ hw (by omega) l1 l2
 have rc : ∀ q, Reach a q → 0 ≤ q ∧ q < mk.length ∧ hdM mk q := by
   intro q hq
   induction hq with
   | root j hj hr =>
     obtain ⟨r1, r2, r3⟩ := h.r _ (getD_mem hj)
     exact way _ 1 r1 r3 hr
   | slot q x hq hx hr ih =>
     obtain ⟨i0, i1, i2⟩ := ih
     obtain ⟨s1, s2, s3⟩ := (h.o q i0 i1 i2).1 x hx
     exact way _ _ s1 s2 hr
 refine ⟨fun q hq hk => ?_, fun q hq x hx hr => ?_, fun j hj hr => ?_, fun q hq x hx => ?_, fun q hq hk => ?_, fun j hj => ?_, fun q hq => ?_⟩
 · obtain ⟨i0, i1, i2⟩ := rc q hq
   obtain ⟨s1, s2, s3⟩ := (h.o q i0 i1 i2).2.1 hk
   exact ⟨s1, s2⟩
 · obtain ⟨i0, i1, i2⟩ := rc q hq
   obtain ⟨s1, s2, s3⟩ := (h.o q i0 i1 i2).1 x hx
   exact (leads_ok s2 hr).2.2
 · obtain ⟨r1, r2, r3⟩ := h.r _ (getD_mem hj)
   exact (leads_ok r3 hr).2.2
 · obtain ⟨i0, i1, i2⟩ := rc q hq
   exact ((h.o q i0 i1 i2).1 x hx).2.2
 · obtain ⟨i0, i1, i2⟩ := rc q hq
   exact tabs_tag a.ws.length 0 [] h.b q i0 (by omega) i2 hk
 · exact (h.r _ (getD_mem hj)).2.1
 · obtain ⟨i0, i1, i2⟩ := rc q hq
   exact (hT.h q i0 i1 i2).1
theorem okC_wf {a : Ar} (h : OkC a) : a.wf := h.num.2
def Src (a : Ar) (v : Vl) : Prop := (∃ j : Nat, j < a.rs.length ∧ v = a.rs.getD j (0, 0)) ∨ ∃ q x, Reach a q ∧ x ∈ slotsL (kdW a.ws q) (szW a.ws q) ∧ v = valW a.ws (q + x)
theorem Src.reach {a : Ar} {v : Vl} (h : Src a v) (hr : isRefB v = true) : Reach a (whereW a.ws v.2) := by
 rcases h with ⟨j, hj, rfl⟩ | ⟨q, x, hq, hx, rfl⟩
 · exact Reach.root j hj hr
 · exact Reach.slot q x hq hx hr
theorem I0.reach {a : Ar} {T1 : List Int} (h : I0 a T1) {q : Int} (hq : Reach a q) : q ∈ T1 := by
 have e : ∀ p ∈ T1, whereW a.ws p = p := fun p hp => where_ok h.wf (h.h1 p hp)
 induction hq with
 | root j hj hr =>
   have := (h.r _ (getD_mem hj)).2 hr
   rw [e _ this]; exact this
 | slot q x _ hx hr ih =>
   have := (h.v q ih x hx).2 hr
   rw [e _ this]; exact this
theorem I0.in1 {a : Ar} {T1 : List Int} (h : I0 a T1) {p : Int} (hp : p ∈ T1) : startA a a.to ≤ p ∧ p + szW a.ws p + 1 ≤ a.top ∧ 1 ≤ szW a.ws p := by
 have := h.c1.mem p hp
 exact ⟨this.1, this.2.2, (size_ok h.wf (h.h1 p hp)).2⟩
theorem OkC.at {a : Ar} (h : OkC a) {q : Int} (hq : Reach a q) : okW (gw a.ws q) = true ∧ 1 ≤ q ∧ q + szW a.ws q + 1 ≤ a.ws.length ∧ 1 ≤ szW a.ws q ∧ (q + szW a.ws q + 1 ≤ a.top ∨ endA a a.to < q) := by
 rcases h with ⟨T1, h⟩ | ⟨T1, T2, h⟩
 · have hp := h.reach hq
   have := h.in1 hp
   have hh := halves h.N
   exact ⟨h.h1 q hp, by omega, by omega, by omega, .inl (by omega)⟩
 · have hl := h.c.canon h.rc hq
   have n := h.c.nums
   refine ⟨h.c.okL hl, ?_⟩
   rcases hl with hp | ⟨hp, ho⟩
   · have := h.c.in1 hp
     exact ⟨by omega, by omega, by omega, .inl (by omega)⟩
   · have := h.c.in2 hp
     have ez : szC a.ws q = szW a.ws q := if_pos ho
     have s := (size_ok h.c.wf ho).2
     exact ⟨by omega, by omega, s, by omega⟩
theorem OkC.src {a : Ar} (h : OkC a) {v : Vl} (hv : Src a v) : valOkB v = true ∧ (isRefB v = true → 0 < v.2 ∧ v.2 < a.ws.length ∧ placeA a v.2 = whereW a.ws v.2) := by
 rcases h with ⟨T1, h⟩ | ⟨T1, T2, h⟩
 · have hh := halves h.N
   have key : valOkB v = true ∧ (isRefB v = true → v.2 ∈ T1) := by
     rcases hv with ⟨j, hj, rfl⟩ | ⟨q, x, hq, hx, rfl⟩
     · exact h.r _ (getD_mem hj)
     · exact h.v q (h.reach hq) x hx
   refine ⟨key.1, fun hr => ?_⟩
   have hp := key.2 hr
   have := h.in1 hp
   refine ⟨by omega, by omega, ?_⟩
   unfold placeA
   rw [where_ok h.wf (h.h1 _ hp)]
   split <;> rfl
 · have n := h.c.nums
   have key : valOkB v = true ∧ (isRefB v = true → v.2 ∈ T1 ∨ v.2 ∈ T2) := by
     rcases hv with ⟨j, hj, rfl⟩ | ⟨q, x, hq, hx, rfl⟩
     · have := h.r _ (getD_mem hj)
       exact ⟨this.1, fun e => .inl (this.2 e)⟩
     · have hl := h.c.canon h.rc hq
       refine ⟨?_, fun hr => h.c.refs hl hx hr⟩
       rcases hl with hl | ⟨hl, ho⟩
       · exact (h.c.v1 q hl x hx).1
       · exact (h.c.v2 q hl ho x hx).1
   refine ⟨key.1, fun hr => ?_⟩
   unfold placeA
   rcases key.2 hr with hp | hp
   · have := h.c.in1 hp
     refine ⟨by omega, by omega, ?_⟩
     rw [h.c.where1 hp]
     split <;> rfl
   · have := h.c.in2 hp
     have := (h.c.c2.mem _ hp).2.1
     refine ⟨by omega, by omega, ?_⟩
     rw [h.c.other2 hp, if_pos rfl]
theorem OkC.text {a : Ar} (h : OkC a) (hs : Shp a) {q : Int} (hq : Reach a q) (hk : kdW a.ws q = 1) : TextAt a q := by
 have p := h.at hq
 have t := hs.t q hq hk
 have := (gw_in (okC_wf h).w (q + 1)).1
 exact ⟨by omega, t.1, by omega, by omega⟩
theorem OkC.key {a : Ar} (h : OkC a) (hs : Shp a) {v : Vl} (hv : Src a v) (h0 : v.1 ≠ 0) (h8 : v.1 ≠ 8) (h9 : v.1 ≠ 9) : KeyOk a v := by
 obtain ⟨s1, s2⟩ := h.src hv
 have t := valOk_tag s1
 refine ⟨s1, by omega, by omega, fun hr => ?_, fun e => ?_⟩
 · have := h.at (hv.reach hr)
   have := s2 hr
   exact ⟨by omega, by omega, by omega, this.2.2⟩
 · have hr : isRefB v = true := by unfold isRefB kindT; rw [e]; rfl
   refine h.text hs (hv.reach hr) ?_
   have kk : kdW a.ws (whereW a.ws v.2) = kindT v.1 := by
     rcases hv with ⟨j, hj, rfl⟩ | ⟨q, x, hq, hx, rfl⟩
     · exact hs.kr j hj hr
     · exact hs.k q hq x hx hr
   rw [kk, e]
   rfl
theorem rule_3 {t : Int} (h : ruleB 3 t = true) : t ≠ 8 ∧ t ≠ 9 := by
 constructor <;> (rintro rfl; revert h; decide)
theorem OkC.blk {a : Ar} (h : OkC a) (hs : Shp a) {q : Int} (hq : Reach a q) (hk : kdW a.ws q = 3) : BlkOk a q (blkN a.ws q) ∧ szW a.ws q = 4 * blkN a.ws q ∧ sizeB 3 (szW a.ws q) = true := by
 have p := h.at hq
 have sz := (size_ok (okC_wf h) p.1).1
 rw [hk] at sz
 have hss : szW a.ws q = 16 ∨ szW a.ws q = 32 ∨ szW a.ws q = 64 ∨ szW a.ws q = 128 ∨ szW a.ws q = 256 := by unfold sizeB at sz; simpa using sz
 have eb : blkN a.ws q = szW a.ws q / 4 := rfl
 refine ⟨⟨by omega, by omega, by omega, by omega, fun i i0 i1 => ?_⟩, by omega, sz⟩
 have hx := (slots_3 sz i0 (by rw [← eb]; exact i1)).1
 have hsrc : Src a (valW a.ws (q + (1 + 4 * i))) := .inr ⟨q, _, hq, by rw [hk]; exact hx, rfl⟩
 rw [show q + 1 + 4 * i = q + (1 + 4 * i) by omega]
 refine ⟨(h.src hsrc).1, ?_⟩
 by_cases c : (valW a.ws (q + (1 + 4 * i))).1 = 0
 · exact .inl c
 · have r := rule_3 (by have := hs.rl q hq _ (by rw [hk]; exact hx); rwa [hk] at this)
   exact .inr (h.key hs hsrc c r.1 r.2)
theorem pack_hd {k s z : Int} (h : hdOk k s z = true) : inW (packH k s z) ∧ hdW (packH k s z) = (k, s, z) ∧ okW (packH k s z) = true := by
 have b := hd_b h
 have e := packH_v h
 have e1 : packH k s z % 16 = k := by rw [e]; omega
 have e2 : packH k s z / 16 % 65536 = s := by rw [e]; omega
 have e3 : packH k s z / 1048576 = z := by rw [e]; omega
 refine ⟨⟨by rw [e]; omega, by rw [e]; omega⟩, ?_, ?_⟩
 · unfold hdW; rw [e1, e2, e3]
 · unfold okW; rw [e1, e2, e3]; exact h
theorem gw_putW {k n z : Int} {a : Ar} (t0 : 0 ≤ a.top) (n0 : 0 ≤ n) (t1 : a.top + n + 1 ≤ a.ws.length) {j : Int} (j0 : 0 ≤ j) :
   gw (putW k n z a).ws j = if j = a.top then packH k n z else if a.top + 1 ≤ j ∧ j < a.top + 1 + n then 0 else gw a.ws j := by
 show gw (clrW (setW a.ws a.top (packH k n z)) (a.top + 1) n.toNat) j = _
 rw [gw_clr (by omega) _ (by rw [setW_len]; omega) j j0, show (n.toNat : Int) = n by omega, gw_set t0 (by omega) j0]
 by_cases c : j = a.top
 · rw [if_pos c, if_neg (by omega), if_pos c]
 · rw [if_neg c, if_neg c]
theorem putW_len (k n z : Int) (a : Ar) : (putW k n z a).ws.length = a.ws.length := by
 show (clrW (setW _ _ _) _ _).length = _
 rw [clrW_len, setW_len]
theorem inW_clr {ws : List U64} (h : ∀ x ∈ ws, inW x.v) (q : Int) : ∀ n : Nat, ∀ y ∈ clrW ws q n, inW y.v
 | 0 => h
 | n + 1 => by unfold clrW; exact inW_set (inW_clr h q n) ⟨by decide, by decide⟩
structure New (b : Ar) (p k n : Int) : Prop where
 ok : okW (gw b.ws p) = true
 kd : kdW b.ws p = k
 sz : szW b.ws p = n
 p0 : 1 ≤ p
 p1 : p + n + 1 ≤ b.ws.length
 z : ∀ j : Int, p + 1 ≤ j → j < p + 1 + n → gw b.ws j = 0
 far : ∀ q, Reach b q → q + szW b.ws q + 1 ≤ p ∨ p + n + 1 ≤ q
 src : ∀ v, Src b v → isRefB v = true → v.2 < p ∨ p + n + 1 ≤ v.2
theorem val_0 {ws : List U64} {i : Int} (h : gw ws i = 0) (h1 : gw ws (i + 1) = 0) : valW ws i = (0, 0) := by unfold valW; rw [h, h1]; rfl
theorem OkC.room {a : Ar} {n : Int} (h : OkC a) (hf : ¬ n + 1 > freeA a) : a.top + n + 1 ≤ endA a a.to - leftA a ∧ 0 ≤ leftA a := by
 unfold freeA at hf
 have hN := h.num.1.f
 unfold freeP at hN
 unfold leftA at hf ⊢
 split
 · rename_i c
   rw [if_pos c] at hf hN
   omega
 · rename_i c
   rw [if_neg c] at hf
   omega
theorem putW_ok {a : Ar} {k n z s : Int} (h : OkC a) (hd : hdOk k n z = true) (hf : ¬ n + 1 > freeA a) (hs : 1 ≤ s ∧ s ≤ 1000000000) :
   OkC { putW k n z a with ser := s } ∧ SmF a { putW k n z a with ser := s } (fun q => q) ∧ New { putW k n z a with ser := s } a.top k n := by
 have hb := hd_b hd
 obtain ⟨w1, w2, w3⟩ := pack_hd hd
 have hN := h.num.1
 have hw := h.num.2
 have hh := halves hN
 have rm := h.room hf
 have sm := hN.sm
 obtain ⟨b, eb⟩ : ∃ b : Ar, b = { putW k n z a with ser := s } := ⟨_, rfl⟩
 rw [← eb]
 have bw : b.ws = (putW k n z a).ws := by rw [eb]
 have bl : b.ws.length = a.ws.length := by rw [bw, putW_len]
 have G : ∀ {j : Int}, 0 ≤ j → gw b.ws j = if j = a.top then packH k n z else if a.top + 1 ≤ j ∧ j < a.top + 1 + n then 0 else gw a.ws j := fun j0 => by rw [bw]; exact gw_putW (by omega) (by omega) (by omega) j0
 have same : ∀ j : Int, 0 ≤ j → (j < a.top ∨ a.top + n + 1 ≤ j) → gw b.ws j = gw a.ws j := fun j j0 hj => by rw [G j0, if_neg (by omega), if_neg (by omega)]
 have Gp : gw b.ws a.top = packH k n z := by rw [G (by omega), if_pos rfl]
 have bwf : b.wf := by
   refine ⟨?_, by rw [bl]; exact hw.n, by rw [eb]; exact hw.r⟩
   rw [bw]
   exact inW_clr (inW_set hw.w w1) _ _
 have okp : okW (gw b.ws a.top) = true := by rw [Gp]; exact w3
 have lk : lookW b.ws a.top = (k, n, z) := by unfold lookW readH; rw [okp, Gp, w2]; rfl
 have kp : kdW b.ws a.top = k := by unfold kdW; rw [lk]
 have sp : szW b.ws a.top = n := by unfold szW; rw [lk]
 have bz : ∀ j : Int, a.top + 1 ≤ j → j < a.top + 1 + n → gw b.ws j = 0 := fun j j0 j1 => by rw [G (by omega), if_neg (by omega), if_pos ⟨j0, j1⟩]
 have bN : NumP b := by
   refine ⟨?_, by rw [eb]; exact hs.1, by rw [eb]; exact hs.2, by rw [eb]; exact hN.r, ?_, ?_, ?_⟩
   · have := sm.l
     refine ⟨by rw [eb]; exact sm.s0, by rw [eb]; exact sm.s1, by rw [eb]; exact sm.t0, by rw [eb]; exact sm.t1, ?_⟩
     rw [bl, this, eb]
     rfl
   · rw [eb]; show startA a a.to ≤ a.top + (n + 1); omega
   · rw [eb]; show a.top + (n + 1) ≤ endA a a.to; omega
   · have hfp := hN.f
     rw [eb]
     unfold freeP at hfp ⊢
     show if a.cyc = true then startA a (1 - a.to) ≤ a.old ∧ a.old ≤ endA a (1 - a.to) ∧ 0 ≤ a.cop ∧ a.cop ≤ a.old - startA a (1 - a.to) ∧ a.top + (n + 1) + a.old - startA a (1 - a.to) - a.cop ≤ endA a a.to else a.scan = 0 ∧ a.old = 0 ∧ a.cop = 0
     unfold leftA at rm
     split
     · rename_i c
       rw [if_pos c] at hfp rm
       omega
     · rename_i c
       rw [if_neg c] at hfp
       exact hfp
 have nslot : ∀ x ∈ slotsL (kdW b.ws a.top) (szW b.ws a.top), valW b.ws (a.top + x) = (0, 0) := fun x hx => by
   have sx := slots_in (size_ok bwf okp).1 hx
   rw [sp] at sx
   exact val_0 (bz _ (by omega) (by omega)) (bz _ (by omega) (by omega))
 have mv : ∀ q : Int, 0 ≤ q → (q + szW a.ws q + 1 ≤ a.top ∨ a.top + n + 1 ≤ q) → gw b.ws q = gw a.ws q := fun q q0 hq => same q q0 (by have := (szW_0 hw.w q).1; omega)
 have mvs : ∀ q : Int, 0 ≤ q → (q + szW a.ws q + 1 ≤ a.top ∨ a.top + n + 1 ≤ q) → okW (gw a.ws q) = true → ∀ x ∈ slotsL (kdW a.ws q) (szW a.ws q), valW b.ws (q + x) = valW a.ws (q + x) := fun q q0 hq ho x hx => by
   have sx := slots_in (size_ok hw ho).1 hx
   exact val_c (same _ (by omega) (by omega)) (same _ (by omega) (by omega))
 have up : OkC b ∧ (∀ q, Reach a q → 0 ≤ q ∧ (q + szW a.ws q + 1 ≤ a.top ∨ a.top + n + 1 ≤ q)) ∧ ∀ v, Src a v → isRefB v = true → 0 ≤ v.2 ∧ (v.2 < a.top ∨ a.top + n + 1 ≤ v.2) := by
   rcases h with ⟨T1, h⟩ | ⟨T1, T2, h⟩
   · have in1 : ∀ q ∈ T1, 0 ≤ q ∧ q + szW a.ws q + 1 ≤ a.top := fun q hq => by have := h.in1 hq; omega
     refine ⟨.inl ⟨T1 ++ [a.top], bwf, bN, by rw [eb]; exact h.cy, ?_, fun p hp => ?_, fun p hp x hx => ?_, fun v hv => ?_⟩, fun q hq => ?_, fun v hv hr => ?_⟩
     · have c : Chain (szW b.ws) (startA a a.to) a.top T1 := h.c1.congr fun p hp => sz_c (mv p (in1 p hp).1 (.inl (in1 p hp).2))
       have := c.push (z := a.top + (n + 1)) (by rw [sp]; omega) (by rw [sp]; omega)
       rw [eb] at this ⊢
       exact this
     · rcases List.mem_append.1 hp with hp | hp
       · rw [mv p (in1 p hp).1 (.inl (in1 p hp).2)]; exact h.h1 p hp
       · rw [List.mem_singleton.1 hp]; exact okp
     · rcases List.mem_append.1 hp with hp | hp
       · have e := mv p (in1 p hp).1 (.inl (in1 p hp).2)
         rw [kd_c e, sz_c e] at hx
         rw [mvs p (in1 p hp).1 (.inl (in1 p hp).2) (h.h1 p hp) x hx]
         have := h.v p hp x hx
         exact ⟨this.1, fun e => by have := this.2 e; simp [this]⟩
       · rw [List.mem_singleton.1 hp] at hx ⊢
         rw [nslot x hx]
         exact ⟨by decide, fun e => absurd e (by decide)⟩
     · have hv : v ∈ a.rs := by rw [eb] at hv; exact hv
       have := h.r v hv
       exact ⟨this.1, fun e => by have := this.2 e; simp [this]⟩
     · have := in1 q (h.reach hq)
       exact ⟨this.1, .inl this.2⟩
     · have hp : v.2 ∈ T1 := by
         rcases hv with ⟨j, hj, rfl⟩ | ⟨q, x, hq, hx, rfl⟩
         · exact (h.r _ (getD_mem hj)).2 hr
         · exact (h.v q (h.reach hq) x hx).2 hr
       have := in1 _ hp
       have := (szW_0 hw.w v.2).1
       omega
   · have nn := h.c.nums
     have in1 : ∀ q ∈ T1, 0 ≤ q ∧ (q + szW a.ws q + 1 ≤ a.top ∨ a.top + n + 1 ≤ q) := fun q hq => by have := h.c.in1 hq; omega
     have lz : 0 ≤ a.old - startA a (1 - a.to) - a.cop := by have := h.c.s2; have := sumC_0 hw.w T2; omega
     have tn : a.top + n + 1 ≤ endA a a.to := by omega
     have far2 : ∀ q ∈ T2, ∀ y : Int, 0 ≤ y → y ≤ szC a.ws q → gw b.ws (q + y) = gw a.ws (q + y) := fun q hq y y0 y1 => by
       have := h.c.in2 hq
       exact same _ (by omega) (by omega)
     have hd2 : ∀ q ∈ T2, gw b.ws q = gw a.ws q := fun q hq => by have := far2 q hq 0 (by omega) (h.c.c2.mem q hq).2.1; rwa [Int.add_zero] at this
     have hd1 : ∀ q ∈ T1, gw b.ws q = gw a.ws q := fun q hq => mv q (in1 q hq).1 (in1 q hq).2
     have szc2 : ∀ q ∈ T2, szC b.ws q = szC a.ws q := fun q hq => by
       unfold szC
       rw [hd2 q hq]
       split
       · exact sz_c (hd2 q hq)
       · rename_i c
         have k := (h.c.h2 q hq).resolve_left c
         rw [to_c (hd2 q hq)]
         exact sz_c (hd1 _ k.2)
     have bc : b.cyc = true := by rw [eb]; exact h.c.cy
     refine ⟨.inr ⟨T1 ++ [a.top], T2, ⟨bwf, bN, bc, ?_, fun p hp => ?_, ?_, fun p hp => ?_, ?_, fun p hp x hx => ?_, fun p hp ho x hx => ?_⟩, ?_, fun q hq hlt x hx hr => ?_, fun v hv => ?_⟩, fun q hq => ?_, fun v hv hr => ?_⟩
     · have c : Chain (szW b.ws) (startA a a.to) a.top T1 := h.c.c1.congr fun p hp => sz_c (hd1 p hp)
       have := c.push (z := a.top + (n + 1)) (by rw [sp]; omega) (by rw [sp]; omega)
       rw [eb] at this ⊢
       exact this
     · rcases List.mem_append.1 hp with hp | hp
       · rw [hd1 p hp]; exact h.c.h1 p hp
       · rw [List.mem_singleton.1 hp]; exact okp
     · have c := h.c.c2.congr (g := szC b.ws) szc2
       rw [eb] at c ⊢
       exact c
     · rw [hd2 p hp]
       refine (h.c.h2 p hp).imp id fun k => ⟨k.1, ?_⟩
       rw [to_c (hd2 p hp)]
       simp [k.2]
     · have e : sumC b.ws T2 = sumC a.ws T2 := sumC_c hd2
       have := h.c.s2
       rw [← e] at this
       rw [eb] at this ⊢
       exact this
     · rcases List.mem_append.1 hp with hp | hp
       · have e := hd1 p hp
         rw [kd_c e, sz_c e] at hx
         rw [mvs p (in1 p hp).1 (in1 p hp).2 (h.c.h1 p hp) x hx]
         have := h.c.v1 p hp x hx
         exact ⟨this.1, fun e => (this.2 e).imp (fun k => by simp [k]) id⟩
       · rw [List.mem_singleton.1 hp] at hx ⊢
         rw [nslot x hx]
         exact ⟨by decide, fun e => absurd e (by decide)⟩
     · have e := hd2 p hp
       rw [e] at ho
       rw [kd_c e, sz_c e] at hx
       have sx := slots_in (size_ok hw ho).1 hx
       have ez : szC a.ws p = szW a.ws p := if_pos ho
       have ev : valW b.ws (p + x) = valW a.ws (p + x) := val_c (far2 p hp x (by omega) (by omega)) (by have := far2 p hp (x + 1) (by omega) (by omega); rwa [← Int.add_assoc] at this)
       rw [ev]
       exact h.c.v2 p hp ho x hx
     · right
       have es : b.scan = a.scan := by rw [eb]; rfl
       rw [es]
       rcases h.sc with k | k
       · simp [k]
       · simp [k]
     · have es : b.scan = a.scan := by rw [eb]; rfl
       rw [es] at hlt
       rcases List.mem_append.1 hq with hp | hp
       · have e := hd1 q hp
         rw [kd_c e, sz_c e] at hx
         rw [mvs q (in1 q hp).1 (in1 q hp).2 (h.c.h1 q hp) x hx] at hr ⊢
         have := h.w1 q hp hlt x hx hr
         simp [this]
       · rw [List.mem_singleton.1 hp] at hx hr ⊢
         rw [nslot x hx] at hr
         exact absurd hr (by decide)
     · have hv : v ∈ a.rs := by rw [eb] at hv; exact hv
       have := h.r v hv
       exact ⟨this.1, fun e => by have := this.2 e; simp [this]⟩
     · rcases h.c.canon h.rc hq with hl | ⟨hl, ho⟩
       · exact in1 q hl
       · have := h.c.in2 hl
         have ez : szC a.ws q = szW a.ws q := if_pos ho
         omega
     · have key : v.2 ∈ T1 ∨ v.2 ∈ T2 := by
         rcases hv with ⟨j, hj, rfl⟩ | ⟨q, x, hq, hx, rfl⟩
         · exact h.rc j hj hr
         · exact h.c.refs (h.c.canon h.rc hq) hx hr
       rcases key with hl | hl
       · have := h.c.in1 hl; omega
       · have := h.c.in2 hl
         have := (h.c.c2.mem _ hl).2.1
         omega
 obtain ⟨u1, u2, u3⟩ := up
 have wsame : ∀ v, Src a v → isRefB v = true → whereW b.ws v.2 = whereW a.ws v.2 := fun v hv hr => where_c (same _ (u3 v hv hr).1 (u3 v hv hr).2)
 have hS : SmF a b fun q => q := by
   refine ⟨fun q hq => ?_, fun q r _ _ e => e, by rw [eb]; rfl, fun j hj => ?_⟩
   · obtain ⟨q0, q1⟩ := u2 q hq
     have ho := (h.at hq).1
     refine ⟨mv q q0 q1, fun y y0 y1 _ => same _ (by omega) (by omega), fun x hx => ?_⟩
     rw [mvs q q0 q1 ho x hx]
     exact ⟨rfl, fun _ => rfl, fun e => wsame _ (.inr ⟨q, x, hq, hx, rfl⟩) e⟩
   · have er : b.rs = a.rs := by rw [eb]; rfl
     rw [er]
     exact ⟨rfl, fun _ => rfl, fun e => wsame _ (.inl ⟨j, hj, rfl⟩) e⟩
 refine ⟨u1, hS, okp, kp, sp, by omega, by omega, bz, fun q hq => ?_, fun v hv hr => ?_⟩
 · obtain ⟨p, hp, rfl⟩ := hS.back hq
   rw [sz_c (hS.o p hp).hd]
   exact (u2 p hp).2
 · have hv' : Src a v := by
     rcases hv with ⟨j, hj, rfl⟩ | ⟨q, x, hq, hx, rfl⟩
     · have er : b.rs = a.rs := by rw [eb]; rfl
       rw [er] at hj ⊢
       exact .inl ⟨j, hj, rfl⟩
     · obtain ⟨p, hp, rfl⟩ := hS.back hq
       have e := (hS.o p hp).hd
       rw [kd_c e, sz_c e] at hx
       obtain ⟨q0, q1⟩ := u2 p hp
       rw [mvs p q0 q1 (h.at hp).1 x hx]
       exact .inr ⟨p, x, hp, hx, rfl⟩
   exact (u3 v hv' hr).2
theorem pace_sm {a : Ar} (h : OkC a) : Sm a (paceA a) := by
 unfold paceA
 by_cases c : a.cyc = true
 · rw [if_pos c]
   exact (over_sm a).trans (steps_sm 2 _ h.over.1)
 · rw [if_neg c]
   split
   · rcases h with ⟨T1, h⟩ | ⟨T1, T2, h⟩
     · obtain ⟨g1, g2, g3⟩ := flip_gd h
       exact (flip_sm h).trans ((over_sm _).trans (by rw [g1.over]; exact steps_sm 2 _ g1))
     · exact absurd h.c.cy c
   · exact Sm.refl a
theorem room_sm {n : Int} {a : Ar} (h : OkC a) : Sm a (roomA n a) := by
 unfold roomA
 split
 · exact coll_sm h
 · exact Sm.refl a
theorem ask_sm {a : Ar} {k n : Int} (h : OkC a) (hsz : sizeB k n = true) (hs : bornB k = true → a.ser < 1000000000) :
   OkC (askA k n a).1 ∧ Sm a (askA k n a).1 ∧ ((askA k n a).2.2 = 0 ∧ New (askA k n a).1 (askA k n a).2.1 k n ∨ (askA k n a).2.2 = 2) := by
 unfold askA
 split
 · exact ⟨h, Sm.refl a, .inr rfl⟩
 · obtain ⟨p1, p2⟩ := pace_ok h
   obtain ⟨r1, r2⟩ := room_ok (n := n) p1
   have S := (pace_sm h).trans (room_sm (n := n) p1)
   have sz := p2.trans r2
   generalize roomA n (paceA a) = b at *
   have hser : b.ser = a.ser := sz.ser
   have z0 := r1.num.1.z0
   have z1 := r1.num.1.z1
   unfold putA
   split
   · exact ⟨r1, S, .inr rfl⟩
   · rename_i hf
     by_cases c : bornB k = true
     · have := hs c
       have hd : hdOk k n b.ser = true := by unfold hdOk; rw [hsz, c]; simp; omega
       obtain ⟨u1, u2, u3⟩ := putW_ok (s := b.ser + 1) r1 hd hf (by omega)
       rw [if_pos c]
       exact ⟨u1, S.trans ⟨_, u2⟩, .inl ⟨rfl, u3⟩⟩
     · have hd : hdOk k n 0 = true := by unfold hdOk; rw [hsz, if_neg c]; rfl
       obtain ⟨u1, u2, u3⟩ := putW_ok (s := b.ser) r1 hd hf ⟨z0, z1⟩
       rw [if_neg c]
       exact ⟨u1, S.trans ⟨_, u2⟩, .inl ⟨rfl, u3⟩⟩
def ldA (a : Ar) (i : Int) : Ar := if a.cyc = true then putV (fwdA a (valW a.ws i)).1 i (fwdA a (valW a.ws i)).2 else a
theorem Chain.uniq {szf : Int → Int} : ∀ {T T' : List Int} {s e : Int}, Chain szf s e T → Chain szf s e T' → T = T'
 | [], [], _, _, _, _ => rfl
 | [], q :: T', s, e, h, ⟨h1, h2, h3, h4⟩ => by have h : s = e := h; have := Chain.le h4; omega
 | p :: T, [], s, e, ⟨h1, h2, h3, h4⟩, h => by have h : s = e := h; have := Chain.le h4; omega
 | p :: T, q :: T', s, e, ⟨h1, h2, h3, h4⟩, ⟨k1, k2, k3, k4⟩ => by
   have e : p = q := by omega
   subst e
   rw [Chain.uniq h4 k4]
theorem fwdA_top {a : Ar} {T1 T2 Ta : List Int} (h : C0 a T1 T2) {v : Vl} (hv : isRefB v = true → v.2 ∈ T1 ∨ v.2 ∈ T2) (hc : C0 (fwdA a v).1 Ta T2) : (fwdA a v).1.top = a.top ∨ a.top ∈ Ta := by
 revert hc
 unfold fwdA
 split
 · rename_i k
   obtain ⟨k1, k2⟩ := k
   have hp : v.2 ∈ T2 := (hv k1).resolve_left fun e => by rw [h.other1 e] at k2; cases k2
   split
   · exact fun _ => .inl rfl
   · rename_i k3
     intro hc
     have ho : okW (gw a.ws v.2) = true := (h.h2 _ hp).resolve_right fun e => k3 e.1
     have e := (h.fwd hp ho).c1.uniq hc.c1
     rw [← e]
     simp
 · exact fun _ => .inl rfl
theorem C1.load {a : Ar} {T1 T2 : List Int} (h : C1 a T1 T2) {p x : Int} (hp : p ∈ T1) (hx : x ∈ slotsL (kdW a.ws p) (szW a.ws p)) :
   ∃ Ta, C1 (putV (fwdA a (valW a.ws (p + x))).1 (p + x) (fwdA a (valW a.ws (p + x))).2) Ta T2 ∧ valW (putV (fwdA a (valW a.ws (p + x))).1 (p + x) (fwdA a (valW a.ws (p + x))).2).ws (p + x) = (fwdA a (valW a.ws (p + x))).2 ∧
     (isRefB (fwdA a (valW a.ws (p + x))).2 = true → (fwdA a (valW a.ws (p + x))).2.2 ∈ Ta) ∧ SameF a (putV (fwdA a (valW a.ws (p + x))).1 (p + x) (fwdA a (valW a.ws (p + x))).2) := by
 obtain ⟨v1, v2⟩ := h.c.v1 p hp x hx
 obtain ⟨Ta, F⟩ := fwd_ok h.c v1 v2
 have ht := fwdA_top h.c v2 F.c
 have sx := slots_in (size_ok h.c.wf (h.c.h1 p hp)).1 hx
 have hn : norm (fwdA a (valW a.ws (p + x))).2 = (fwdA a (valW a.ws (p + x))).2 := by
   cases e : isRefB (valW a.ws (p + x)) with
   | false => rw [F.nr e]; exact norm_val _ _
   | true =>
     have e2 : isRefB (fwdA a (valW a.ws (p + x))).2 = true := by unfold isRefB at e ⊢; rw [F.tag]; exact e
     have := F.c.in1 (F.r e2)
     have := F.c.nums
     unfold norm
     rw [w64 (by omega) (by omega)]
 generalize fwdA a (valW a.ws (p + x)) = fr at *
 obtain ⟨b, w⟩ := fr
 simp only at F ht hn ⊢
 have K0 : ∀ q ∈ T1, gw b.ws q = gw a.ws q := fun q hq => by have := F.keep q hq 0 (by omega) (szW_0 h.c.wf.w q).1; rwa [Int.add_zero] at this
 have e1 := K0 p hp
 have P := put_ok F.c (F.sub p hp) (show x ∈ slotsL (kdW b.ws p) (szW b.ws p) by rw [kd_c e1, sz_c e1]; exact hx) F.ok F.r
 have es : (putV b (p + x) w).scan = a.scan := P.f.scan.trans F.f.scan
 have et : (putV b (p + x) w).top = b.top := P.top
 have hst : a.scan ≤ a.top := by
   rcases h.sc with k | k
   · omega
   · have := h.c.in1 k; omega
 refine ⟨Ta, ⟨P.c, ?_, fun q hq hlt y hy hr => ?_, fun v hv => ?_⟩, P.val.trans hn, F.r, F.f.trans P.f⟩
 · rw [es, et]
   rcases h.sc with k | k
   · rcases ht with k2 | k2
     · left; omega
     · right; rw [k]; exact k2
   · exact .inr (F.sub _ k)
 · rw [es] at hlt
   have hq1 : q ∈ T1 := by
     rcases F.new q hq with k | k
     · exact k
     · omega
   have eq := P.head q hq
   rw [kd_c eq, sz_c eq, kd_c (K0 q hq1), sz_c (K0 q hq1)] at hy
   have sy := slots_in (size_ok h.c.wf (h.c.h1 q hq1)).1 hy
   have ev : valW b.ws (q + y) = valW a.ws (q + y) := val_c (F.keep q hq1 y (by omega) (by omega)) (by have := F.keep q hq1 (y + 1) (by omega) (by omega); rwa [← Int.add_assoc] at this)
   by_cases e : q = p
   · subst e
     by_cases ey : y = x
     · subst ey
       rw [P.val, hn] at hr ⊢
       exact F.r hr
     · have ov := P.other y (by rw [kd_c e1, sz_c e1]; exact hy) ey
       rw [ov, ev] at hr ⊢
       exact F.sub _ (h.w1 q hq1 hlt y hy hr)
   · have zq := sz_c (K0 q hq1)
     have ov : valW (putV b (p + x) w).ws (q + y) = valW b.ws (q + y) := val_c (P.keep q hq e y (by omega) (by omega)) (by have := P.keep q hq e (y + 1) (by omega) (by omega); rwa [← Int.add_assoc] at this)
     rw [ov, ev] at hr ⊢
     exact F.sub _ (h.w1 q hq1 hlt y hy hr)
 · have er : (putV b (p + x) w).rs = a.rs := P.f.rs.trans F.f.rs
   rw [er] at hv
   exact ⟨(h.r v hv).1, fun e => F.sub _ ((h.r v hv).2 e)⟩
theorem OkC.root {a : Ar} (h : OkC a) {j : Nat} (hj : j < a.rs.length) (hr : isRefB (a.rs.getD j (0, 0)) = true) : whereW a.ws (a.rs.getD j (0, 0)).2 = (a.rs.getD j (0, 0)).2 ∧ Reach a (a.rs.getD j (0, 0)).2 := by
 have e : whereW a.ws (a.rs.getD j (0, 0)).2 = (a.rs.getD j (0, 0)).2 := by
   rcases h with ⟨T1, h⟩ | ⟨T1, T2, h⟩
   · exact where_ok h.wf (h.h1 _ ((h.r _ (getD_mem hj)).2 hr))
   · exact h.c.where1 ((h.r _ (getD_mem hj)).2 hr)
 refine ⟨e, ?_⟩
 have := Reach.root (a := a) j hj hr
 rwa [e] at this
structure LdOk (a : Ar) (p x : Int) (b : Ar) : Prop where
 c : OkC b
 s : Sm a b
 f : SameF a b
 w : isRefB (valW b.ws (p + x)) = true → whereW b.ws (valW b.ws (p + x)).2 = (valW b.ws (p + x)).2
 v : a.cyc = true → (fwdA a (valW a.ws (p + x))).2 = valW b.ws (p + x)
theorem ld_ok {a : Ar} (h : OkC a) {j : Nat} (hj : j < a.rs.length) (hr : isRefB (a.rs.getD j (0, 0)) = true) {x : Int} (hx : x ∈ slotsL (kdW a.ws (a.rs.getD j (0, 0)).2) (szW a.ws (a.rs.getD j (0, 0)).2)) :
   LdOk a (a.rs.getD j (0, 0)).2 x (ldA a ((a.rs.getD j (0, 0)).2 + x)) := by
 obtain ⟨T1, k⟩ | ⟨T1, T2, k⟩ := h
 · have e : ldA a ((a.rs.getD j (0, 0)).2 + x) = a := if_neg (by rw [k.cy]; decide)
   rw [e]
   have hp := (k.r _ (getD_mem hj)).2 hr
   exact ⟨.inl ⟨T1, k⟩, Sm.refl a, SameF.refl a, fun hv => where_ok k.wf (k.h1 _ ((k.v _ hp x hx).2 hv)), fun hc => by rw [k.cy] at hc; cases hc⟩
 · have e : ldA a ((a.rs.getD j (0, 0)).2 + x) = putV (fwdA a (valW a.ws ((a.rs.getD j (0, 0)).2 + x))).1 ((a.rs.getD j (0, 0)).2 + x) (fwdA a (valW a.ws ((a.rs.getD j (0, 0)).2 + x))).2 := if_pos k.c.cy
   rw [e]
   have hp := (k.r _ (getD_mem hj)).2 hr
   obtain ⟨Ta, c1, c2, c3, c4⟩ := k.load hp hx
   exact ⟨.inr ⟨Ta, T2, c1⟩, load_sm k.c k.rc hp hx, c4, fun hv => by rw [c2] at hv ⊢; exact c1.c.where1 (c3 hv), fun _ => c2.symm⟩
theorem findG_in {ws : List U64} {b n : Int} {key : Vl} (n0 : 0 < n) : ∀ (f : Nat) (i : Int), 0 ≤ i → i < n → (findG ws b n key f i).1 = -1 ∧ (∀ j : Nat, j < f → (valW ws (b + 1 + 4 * ((i + j) % n))).1 ≠ 0) ∨ 0 ≤ (findG ws b n key f i).1 ∧ (findG ws b n key f i).1 < n
 | 0, i, _, _ => .inl ⟨rfl, fun j hj => by omega⟩
 | f + 1, i, i0, i1 => by
   unfold findG
   split
   · exact .inr ⟨i0, i1⟩
   · rename_i c
     split
     · exact .inr ⟨i0, i1⟩
     · have m0 := Int.emod_nonneg (i + 1) (show n ≠ 0 by omega)
       have m1 := Int.emod_lt_of_pos (i + 1) n0
       refine (findG_in n0 f ((i + 1) % n) m0 m1).imp (fun k => ⟨k.1, fun j hj => ?_⟩) id
       cases j with
       | zero => rw [show i + ((0 : Nat) : Int) = i by omega, Int.emod_eq_of_lt i0 i1]; exact c
       | succ j =>
         have := k.2 j (by omega)
         rwa [Int.emod_add_emod, show i + 1 + (j : Int) = i + ((j + 1 : Nat) : Int) by omega] at this
theorem used_all {ws : List U64} {b : Int} : ∀ n : Nat, (∀ i : Int, 0 ≤ i → i < n → gw ws (b + 1 + 4 * i) ≠ 0) → usedW ws b n = n
 | 0, _ => rfl
 | n + 1, h => by
   unfold usedW
   rw [used_all n fun i i0 i1 => h i i0 (by omega), if_neg (h n (by omega) (by omega))]
   omega
theorem used_put {ws ws' : List U64} {b i : Int} (h : ∀ j : Int, 0 ≤ j → j ≠ i → gw ws' (b + 1 + 4 * j) = gw ws (b + 1 + 4 * j)) : ∀ n : Nat, usedW ws' b n ≤ usedW ws b n + if i < n then 1 else 0
 | 0 => by unfold usedW; split <;> omega
 | n + 1 => by
   have k := used_put h n
   unfold usedW
   have b1 : ∀ x : Int, 0 ≤ (if x = 0 then (0 : Int) else 1) ∧ (if x = 0 then (0 : Int) else 1) ≤ 1 := fun x => by split <;> omega
   have c1 := b1 (gw ws' (b + 1 + 4 * (n : Int)))
   have c2 := b1 (gw ws (b + 1 + 4 * (n : Int)))
   by_cases e : (n : Int) = i
   · have e1 : (if i < (n : Int) then (1 : Int) else 0) = 0 := if_neg (by omega)
     have e2 : (if i < ((n + 1 : Nat) : Int) then (1 : Int) else 0) = 1 := if_pos (by omega)
     rw [e1] at k
     rw [e2]
     omega
   · rw [h n (by omega) e] at c1 ⊢
     by_cases c : i < (n : Int)
     · have e1 : (if i < (n : Int) then (1 : Int) else 0) = 1 := if_pos c
       have e2 : (if i < ((n + 1 : Nat) : Int) then (1 : Int) else 0) = 1 := if_pos (by omega)
       rw [e1] at k
       rw [e2]
       omega
     · have e1 : (if i < (n : Int) then (1 : Int) else 0) = 0 := if_neg c
       have e2 : (if i < ((n + 1 : Nat) : Int) then (1 : Int) else 0) = 0 := if_neg (by omega)
       rw [e1] at k
       rw [e2]
       omega
theorem wrap_0 {x : Int} (h : inW x) (e : IntKind.i64.wrap x = 0) : x = 0 := by
 unfold inW at h
 unfold IntKind.wrap at e
 simp [IntKind.bits, IntKind.signed] at e
 omega
def KeyS (c : Ar) (k : Vl) : Prop := (Src c k ∨ k.1 = 2) ∧ k.1 ≠ 0 ∧ k.1 ≠ 8 ∧ k.1 ≠ 9
structure Fill (c : Ar) (p n : Int) (w : List U64) (cnt : Int) : Prop where
 len : w.length = c.ws.length
 inw : ∀ x ∈ w, inW x.v
 out : ∀ j : Int, 0 ≤ j → (j ≤ p ∨ p + 4 * n < j) → gw w j = gw c.ws j
 key : ∀ i : Int, 0 ≤ i → i < n → valW w (p + 1 + 4 * i) = (0, 0) ∨ KeyS c (valW w (p + 1 + 4 * i))
 used : usedW w p n.toNat ≤ cnt
structure Grd (c : Ar) (p n : Int) : Prop where
 ok : OkC c
 s : Shp c
 nw : New c p 3 (4 * n)
 n0 : 1 ≤ n
 n1 : n ≤ 64
theorem Grd.init {c : Ar} {p n : Int} (h : Grd c p n) : Fill c p n c.ws 0 := by
 have n0 := h.n0
 have z : ∀ i : Int, 0 ≤ i → i < n → gw c.ws (p + 1 + 4 * i) = 0 ∧ gw c.ws (p + 1 + 4 * i + 1) = 0 := fun i i0 i1 => ⟨h.nw.z _ (by omega) (by omega), h.nw.z _ (by omega) (by omega)⟩
 refine ⟨rfl, (okC_wf h.ok).w, fun _ _ _ => rfl, fun i i0 i1 => .inl (val_0 (z i i0 i1).1 (z i i0 i1).2), ?_⟩
 have : ∀ m : Nat, (m : Int) ≤ n → usedW c.ws p m = 0 := by
   intro m
   induction m with
   | zero => exact fun _ => rfl
   | succ m ih =>
     intro hm
     unfold usedW
     rw [ih (by omega), if_pos (z m (by omega) (by omega)).1]
     rfl
 rw [this n.toNat (by omega)]
 exact Int.le_refl _
theorem Fill.obj {c : Ar} {p n : Int} {w : List U64} {cnt : Int} (h : Fill c p n w cnt) (g : Grd c p n) {q : Int} (hq : Reach c q) {y : Int} (y0 : 0 ≤ y) (y1 : y ≤ szW c.ws q) : gw w (q + y) = gw c.ws (q + y) := by
 have := g.nw.far q hq
 have := g.ok.at hq
 exact h.out _ (by omega) (by omega)
theorem Fill.wh {c : Ar} {p n : Int} {w : List U64} {cnt : Int} (h : Fill c p n w cnt) (g : Grd c p n) {v : Vl} (hv : Src c v) (hr : isRefB v = true) : whereW w v.2 = whereW c.ws v.2 := by
 have := g.nw.src v hv hr
 have := (g.ok.src hv).2 hr
 exact where_c (h.out _ (by omega) (by omega))
theorem Fill.keyOk {c : Ar} {p n : Int} {w : List U64} {cnt : Int} (h : Fill c p n w cnt) (g : Grd c p n) {v : Vl} (hv : KeyS c v) : KeyOk { c with ws := w } v := by
 obtain ⟨h1, h2, h3, h4⟩ := hv
 rcases h1 with h1 | h1
 case inr =>
   have nr : isRefB v = false := by unfold isRefB kindT; rw [h1]; rfl
   exact ⟨by unfold valOkB; rw [h1]; rfl, by omega, by omega, fun hr => (by rw [nr] at hr; cases hr), fun e => by omega⟩
 have k := g.ok.key g.s h1 h2 h3 h4
 refine ⟨k.ok, k.t0, k.t1, fun hr => ?_, fun e => ?_⟩
 · have ew := h.wh g h1 hr
   have := k.r hr
   have ep : placeA { c with ws := w } v.2 = placeA c v.2 := by
     unfold placeA
     show (if otherA c v.2 = true then whereW w v.2 else v.2) = _
     rw [ew]
   show v.2 < (w.length : Int) ∧ 0 ≤ whereW w v.2 ∧ whereW w v.2 < (w.length : Int) ∧ placeA { c with ws := w } v.2 = whereW w v.2
   rw [ep, ew, h.len]
   exact this
 · have hr : isRefB v = true := by unfold isRefB kindT; rw [e]; rfl
   have t := k.s e
   have o := h.obj g (h1.reach hr) (y := 1) (by omega) (g.ok.at (h1.reach hr)).2.2.2.1
   show TextAt { c with ws := w } (whereW w v.2)
   rw [h.wh g h1 hr]
   refine ⟨t.p0, ?_, ?_, ?_⟩
   · show gw w _ ≤ 160
     rw [o]; exact t.n
   · show _ + (gw w _ + 7) / 8 < (w.length : Int)
     rw [o, h.len]; exact t.pz
   · show _ < (w.length : Int)
     rw [h.len]; exact t.p1
theorem Fill.wf {c : Ar} {p n : Int} {w : List U64} {cnt : Int} (h : Fill c p n w cnt) (g : Grd c p n) : ({ c with ws := w } : Ar).wf := by
 have k := okC_wf g.ok
 exact ⟨h.inw, by show w.length ≤ _; rw [h.len]; exact k.n, k.r⟩
theorem Fill.blk {c : Ar} {p n : Int} {w : List U64} {cnt : Int} (h : Fill c p n w cnt) (g : Grd c p n) : BlkOk { c with ws := w } p n := by
 have p0 := g.nw.p0
 have p1 := g.nw.p1
 refine ⟨by omega, g.n0, g.n1, by show p + 4 * n < (w.length : Int); rw [h.len]; omega, fun i i0 i1 => ?_⟩
 show valOkB (valW w (p + 1 + 4 * i)) = true ∧ ((valW w (p + 1 + 4 * i)).1 = 0 ∨ KeyOk { c with ws := w } (valW w (p + 1 + 4 * i)))
 rcases h.key i i0 i1 with e | e
 · rw [e]; exact ⟨by decide, .inl rfl⟩
 · have := h.keyOk g e
   exact ⟨this.ok, .inr this⟩
theorem Fill.find {c : Ar} {p n : Int} {w : List U64} {cnt : Int} (h : Fill c p n w cnt) (g : Grd c p n) (hc : cnt < n) {k : Vl} (hk : KeyS c k) : 0 ≤ (findA w p n k).1 ∧ (findA w p n k).1 < n := by
 have n0 := g.n0
 have hh : 0 ≤ hashA w k := hash_nn (a := { c with ws := w }) (h.wf g) (h.keyOk g hk)
 have m0 := Int.emod_nonneg (hashA w k) (show n ≠ 0 by omega)
 have m1 := Int.emod_lt_of_pos (hashA w k) (show 0 < n by omega)
 unfold findA
 rw [if_neg hk.2.1]
 rcases findG_in (ws := w) (b := p) (key := k) (show 0 < n by omega) n.toNat (hashA w k % n) m0 m1 with e | e
 · exfalso
   have all : ∀ i : Int, 0 ≤ i → i < (n.toNat : Int) → gw w (p + 1 + 4 * i) ≠ 0 := by
     intro i i0 i1 e0
     obtain ⟨x, ex⟩ : ∃ x, x = hashA w k % n := ⟨_, rfl⟩
     rw [← ex] at e m0 m1
     by_cases c : x ≤ i
     · have := e.2 (i - x).toNat (by omega)
       rw [show x + ((i - x).toNat : Int) = i by omega, Int.emod_eq_of_lt i0 (by omega)] at this
       exact this (by unfold valW; rw [e0]; rfl)
     · have := e.2 (i - x + n).toNat (by omega)
       rw [show x + ((i - x + n).toNat : Int) = i + n by omega, Int.add_emod_right, Int.emod_eq_of_lt i0 (by omega)] at this
       exact this (by unfold valW; rw [e0]; rfl)
   have := used_all n.toNat all
   have := h.used
   omega
 · exact e
def layW (p n : Int) (w : List U64) (k v : Vl) : List U64 :=
 setW (setW (setW (setW w (p + 1 + 4 * (findA w p n k).1) (uW k.1)) (p + 1 + 4 * (findA w p n k).1 + 1) (uW k.2)) (p + 3 + 4 * (findA w p n k).1) (uW v.1)) (p + 3 + 4 * (findA w p n k).1 + 1) (uW v.2)
theorem lay_len (p n : Int) (w : List U64) (k v : Vl) : (layW p n w k v).length = w.length := by unfold layW; simp only [setW_len]
theorem KeyS.norm {c : Ar} {k : Vl} (h : KeyS c k) (hc : OkC c) : KeyS c (norm k) := by
 obtain ⟨h1, h2, h3, h4⟩ := h
 by_cases e : k.1 = 2
 · exact ⟨.inr e, h2, h3, h4⟩
 · have h1 := h1.resolve_right e
   obtain ⟨s1, s2⟩ := hc.src h1
   have en : Abs.norm k = k := by
     unfold Abs.norm
     cases er : isRefB k with
     | true =>
       have := s2 er
       have := hc.num.2.n
       rw [w64 (by omega) (by omega)]
     | false =>
       unfold valOkB at s1
       rw [er] at s1
       by_cases e1 : k.1 = 1
       · rw [if_neg h2, if_pos e1] at s1
         simp only [decide_eq_true_eq] at s1
         rw [w64 (by omega) (by omega)]
       · by_cases e7 : k.1 = 7
         · rw [if_neg h2, if_neg e1, if_neg e, if_pos e7] at s1
           simp only [decide_eq_true_eq] at s1
           rw [w64 (by omega) (by omega)]
         · rw [if_neg h2, if_neg e1, if_neg e, if_neg e7] at s1
           simp at s1
   rw [en]
   exact ⟨.inl h1, h2, h3, h4⟩
theorem Fill.lay {c : Ar} {p n : Int} {w : List U64} {cnt : Int} (h : Fill c p n w cnt) (g : Grd c p n) (hc : cnt < n) {k : Vl} (hk : KeyS c k) (v : Vl) : Fill c p n (layW p n w k v) (cnt + 1) := by
 obtain ⟨f0, f1⟩ := h.find g hc hk
 have p0 := g.nw.p0
 have p1 := g.nw.p1
 have hl := h.len
 have ko := h.keyOk g hk
 obtain ⟨i, ei⟩ : ∃ i, i = (findA w p n k).1 := ⟨_, rfl⟩
 rw [← ei] at f0 f1
 have G : ∀ {j : Int}, 0 ≤ j → gw (layW p n w k v) j = if j = p + 3 + 4 * i + 1 then uW v.2 else if j = p + 3 + 4 * i then uW v.1 else if j = p + 1 + 4 * i + 1 then uW k.2 else if j = p + 1 + 4 * i then uW k.1 else gw w j := by
   intro j j0
   unfold layW
   rw [← ei, gw_set (by omega) (by simp only [setW_len]; omega) j0, gw_set (by omega) (by simp only [setW_len]; omega) j0, gw_set (by omega) (by simp only [setW_len]; omega) j0, gw_set (by omega) (by omega) j0]
 refine ⟨by rw [lay_len, hl], ?_, fun j j0 hj => ?_, fun j j0 j1 => ?_, ?_⟩
 · unfold layW
   exact inW_set (inW_set (inW_set (inW_set h.inw (uW_in _)) (uW_in _)) (uW_in _)) (uW_in _)
 · rw [G j0, if_neg (by omega), if_neg (by omega), if_neg (by omega), if_neg (by omega)]
   exact h.out j j0 hj
 · by_cases e : j = i
   · subst e
     have e1 : gw (layW p n w k v) (p + 1 + 4 * j) = uW k.1 := by rw [G (by omega), if_neg (by omega), if_neg (by omega), if_neg (by omega), if_pos rfl]
     have e2 : gw (layW p n w k v) (p + 1 + 4 * j + 1) = uW k.2 := by rw [G (by omega), if_neg (by omega), if_neg (by omega), if_pos rfl]
     have ev : valW (layW p n w k v) (p + 1 + 4 * j) = norm k := by
       have := valOk_tag ko.ok
       unfold valW norm
       rw [e1, e2, wrap_uW, wrap_uW, w64 (x := k.1) (by omega) (by omega)]
     rw [ev]
     exact .inr (hk.norm g.ok)
   · have ev : valW (layW p n w k v) (p + 1 + 4 * j) = valW w (p + 1 + 4 * j) := val_c (by rw [G (by omega), if_neg (by omega), if_neg (by omega), if_neg (by omega), if_neg (by omega)]) (by rw [G (by omega), if_neg (by omega), if_neg (by omega), if_neg (by omega), if_neg (by omega)])
     rw [ev]
     exact h.key j j0 j1
 · have := used_put (ws := w) (ws' := layW p n w k v) (b := p) (i := i) (fun j j0 hne => by rw [G (by omega), if_neg (by omega), if_neg (by omega), if_neg (by omega), if_neg (by omega)]) n.toNat
   rw [if_pos (by omega)] at this
   have := h.used
   omega
def blkOf (ws : List U64) (p : Int) : Int × Int := if (valW ws (p + 2)).1 = 0 then (0, 0) else (whereW ws (valW ws (p + 2)).2, blkN ws (whereW ws (valW ws (p + 2)).2))
def aliveB (ws : List U64) (b i : Int) : Bool := (valW ws (b + 1 + 4 * i)).1 != 0 && (valW ws (b + 3 + 4 * i)).1 != 0
def aliveF (ws : List U64) (b : Int) : Nat → Int → Int
 | 0, _ => 0
 | f + 1, i => (if aliveB ws b i = true then 1 else 0) + aliveF ws b f (i + 1)
theorem aliveF_range (ws : List U64) (b : Int) : ∀ (f : Nat) (i : Int), 0 ≤ aliveF ws b f i ∧ aliveF ws b f i ≤ f
 | 0, _ => ⟨Int.le_refl _, Int.le_refl _⟩
 | f + 1, i => by
   have := aliveF_range ws b f (i + 1)
   unfold aliveF
   split <;> omega
def fillF (p n b : Int) : Nat → Int → List U64 → List U64
 | 0, _, w => w
 | f + 1, i, w => fillF p n b f (i + 1) (if aliveB w b i = true then layW p n w (valW w (b + 1 + 4 * i)) (valW w (b + 3 + 4 * i)) else w)
def growN (l : Int) : Int := if 4 * l ≤ 12 then 4 else if 4 * l ≤ 24 then 8 else if 4 * l ≤ 48 then 16 else if 4 * l ≤ 96 then 32 else if 4 * l ≤ 192 then 64 else 128
theorem tabs_at {a : Ar} {mk : List Int} : ∀ (d : Nat) (p : Int) (had : List Int), tabsP a mk d p had → ∀ q : Int, p ≤ q → q < p + d → hdM mk q → kdW a.ws q = 2 → ∃ had', tabP a.ws q had'
 | 0, p, had, _, q, h1, h2, _, _ => by omega
 | d + 1, p, had, h, q, h1, h2, hq, hk => by
   unfold tabsP at h
   by_cases e : q = p
   · subst e
     rw [if_pos ⟨hq, hk⟩] at h
     exact ⟨had, h.1⟩
   · split at h
     · exact tabs_at d (p + 1) _ h.2 q (by omega) (by omega) hq hk
     · exact tabs_at d (p + 1) _ h q (by omega) (by omega) hq hk
def UsP (a : Ar) : Prop := ∀ q, Reach a q → kdW a.ws q = 2 → gw a.ws (q + 1) = usedW a.ws (blkOf a.ws q).1 (blkOf a.ws q).2.toNat ∧ 4 * gw a.ws (q + 1) ≤ 3 * (blkOf a.ws q).2
theorem reach_mk {a : Ar} {mk : List Int} (hw : a.wf) (h : OkM a mk) {q : Int} (hq : Reach a q) : 0 ≤ q ∧ q < mk.length ∧ hdM mk q := by
 have hT := tile_ok hw h.N h.t
 have way : ∀ v : Vl, ∀ frm : Int, valOkB v = true → leadsB a mk v frm = true → isRefB v = true → 0 ≤ whereW a.ws v.2 ∧ whereW a.ws v.2 < mk.length ∧ hdM mk (whereW a.ws v.2) := fun v frm h1 h2 hr => by
   obtain ⟨l1, l2, l3⟩ := leads_ok h2 hr
   have := ref_pos h1 hr
   exact hT.where_ hw (by omega) l1 l2
 induction hq with
 | root j hj hr =>
   obtain ⟨r1, r2, r3⟩ := h.r _ (getD_mem hj)
   exact way _ 1 r1 r3 hr
 | slot q x hq hx hr ih =>
   obtain ⟨i0, i1, i2⟩ := ih
   obtain ⟨s1, s2, s3⟩ := (h.o q i0 i1 i2).1 x hx
   exact way _ _ s1 s2 hr
theorem us_of {a : Ar} (hw : a.wf) (h : okP a) : UsP a := by
 obtain ⟨mk, h⟩ := h
 have hn := (tile_ok hw h.N h.t).n
 intro q hq hk
 obtain ⟨i0, i1, i2⟩ := reach_mk hw h hq
 obtain ⟨had, t⟩ := tabs_at a.ws.length 0 [] h.b q i0 (by omega) i2 hk
 unfold tabP at t
 unfold blkOf
 by_cases c : (valW a.ws (q + 2)).1 = 0
 · rw [if_pos c] at t ⊢
   rw [t]
   exact ⟨rfl, by decide⟩
 · rw [if_neg c] at t ⊢
   exact ⟨t.2.2.2.1, t.2.2.2.2⟩
theorem wrap_00 {x y : Int} (hx : inW x) (hy : inW y) (e : IntKind.i64.wrap x = IntKind.i64.wrap y) : x = 0 ↔ y = 0 := by
 constructor
 · rintro rfl
   exact wrap_0 hy (by rw [← e]; rfl)
 · rintro rfl
   exact wrap_0 hx (by rw [e]; rfl)
theorem blk_same {a b : Ar} {f : Int → Int} (ha : a.wf) (hb : b.wf) (S : SmF a b f) {p : Int} (hp : Reach a p) (hk : kdW a.ws p = 3) (hs : sizeB 3 (szW a.ws p) = true) :
   blkN b.ws (f p) = blkN a.ws p ∧ (∀ m : Nat, (m : Int) ≤ blkN a.ws p → usedW b.ws (f p) m = usedW a.ws p m) ∧ ∀ (m : Nat) (i : Int), 0 ≤ i → i + m ≤ blkN a.ws p → aliveF b.ws (f p) m i = aliveF a.ws p m i := by
 have o := S.o p hp
 have eb : blkN a.ws p = szW a.ws p / 4 := rfl
 have tg : ∀ i : Int, 0 ≤ i → i < blkN a.ws p → (valW b.ws (f p + 1 + 4 * i)).1 = (valW a.ws (p + 1 + 4 * i)).1 ∧ (valW b.ws (f p + 3 + 4 * i)).1 = (valW a.ws (p + 3 + 4 * i)).1 := fun i i0 i1 => by
   obtain ⟨s1, s2⟩ := slots_3 hs i0 (by rw [← eb]; exact i1)
   have t1 := (o.sl _ (by rw [hk]; exact s1)).1
   have t2 := (o.sl _ (by rw [hk]; exact s2)).1
   rw [show f p + (1 + 4 * i) = f p + 1 + 4 * i by omega, show p + (1 + 4 * i) = p + 1 + 4 * i by omega] at t1
   rw [show f p + (3 + 4 * i) = f p + 3 + 4 * i by omega, show p + (3 + 4 * i) = p + 3 + 4 * i by omega] at t2
   exact ⟨t1, t2⟩
 refine ⟨?_, fun m => ?_, fun m => ?_⟩
 · show szW b.ws (f p) / 4 = szW a.ws p / 4
   rw [sz_c o.hd]
 · induction m with
   | zero => exact fun _ => rfl
   | succ m ih =>
     intro hm
     unfold usedW
     rw [ih (by omega)]
     have e := wrap_00 (gw_in hb.w _) (gw_in ha.w _) (tg m (by omega) (by omega)).1
     by_cases c : gw a.ws (p + 1 + 4 * (m : Int)) = 0
     · rw [if_pos c, if_pos (e.2 c)]
     · rw [if_neg c, if_neg fun k => c (e.1 k)]
 · induction m with
   | zero => exact fun _ _ _ => rfl
   | succ m ih =>
     intro i i0 i1
     unfold aliveF
     rw [ih (i + 1) (by omega) (by omega)]
     have t := tg i i0 (by omega)
     have : aliveB b.ws (f p) i = aliveB a.ws p i := by unfold aliveB; rw [t.1, t.2]
     rw [this]
structure TabB (a : Ar) (p : Int) : Prop where
 ok : okW (gw a.ws p) = true
 sz : szW a.ws p = 3
 p0 : 1 ≤ p
 p1 : p + 4 ≤ a.ws.length
 v : valOkB (valW a.ws (p + 2)) = true
 b : (blkOf a.ws p) = (0, 0) ∧ (valW a.ws (p + 2)).1 = 0 ∨ (valW a.ws (p + 2)).1 = 8 ∧ Src a (valW a.ws (p + 2)) ∧ Reach a (blkOf a.ws p).1 ∧ kdW a.ws (blkOf a.ws p).1 = 3 ∧ BlkOk a (blkOf a.ws p).1 (blkOf a.ws p).2 ∧ szW a.ws (blkOf a.ws p).1 = 4 * (blkOf a.ws p).2 ∧ (blkOf a.ws p).2 = blkN a.ws (blkOf a.ws p).1 ∧ (blkOf a.ws p).1 = whereW a.ws (valW a.ws (p + 2)).2 ∧ 0 < (valW a.ws (p + 2)).2 ∧ (valW a.ws (p + 2)).2 < a.ws.length ∧ placeA a (valW a.ws (p + 2)).2 = (blkOf a.ws p).1 ∧ sizeB 3 (szW a.ws (blkOf a.ws p).1) = true
theorem OkC.tab {a : Ar} (h : OkC a) (hs : Shp a) {p : Int} (hp : Reach a p) (hk : kdW a.ws p = 2) : TabB a p := by
 have t := h.at hp
 have sz := ok_tab (okC_wf h) t.1 hk
 have hx : (2 : Int) ∈ slotsL (kdW a.ws p) (szW a.ws p) := by rw [hk, sz, slots_2]; simp
 have src : Src a (valW a.ws (p + 2)) := .inr ⟨p, 2, hp, hx, rfl⟩
 obtain ⟨s1, s2⟩ := h.src src
 refine ⟨t.1, sz, by omega, by omega, s1, ?_⟩
 unfold blkOf
 rcases hs.tb p hp hk with e | e
 · rw [if_pos e]; exact .inl ⟨rfl, e⟩
 · have hr : isRefB (valW a.ws (p + 2)) = true := by unfold isRefB kindT; rw [e]; rfl
   rw [if_neg (by rw [e]; decide)]
   have hb := src.reach hr
   have k3 : kdW a.ws (whereW a.ws (valW a.ws (p + 2)).2) = 3 := by rw [hs.k p hp 2 hx hr, e]; rfl
   obtain ⟨b1, b2, b3⟩ := h.blk hs hb k3
   have := s2 hr
   exact .inr ⟨e, src, hb, k3, b1, b2, rfl, rfl, this.1, this.2.1, this.2.2, b3⟩
theorem blkOf_sm {a b : Ar} {f : Int → Int} (ha : OkC a) (hs : Shp a) (hb : b.wf) (S : SmF a b f) {p : Int} (hp : Reach a p) (hk : kdW a.ws p = 2) :
   gw b.ws (f p + 1) = gw a.ws (p + 1) ∧ (blkOf b.ws (f p)).2 = (blkOf a.ws p).2 ∧ usedW b.ws (blkOf b.ws (f p)).1 (blkOf b.ws (f p)).2.toNat = usedW a.ws (blkOf a.ws p).1 (blkOf a.ws p).2.toNat ∧
     aliveF b.ws (blkOf b.ws (f p)).1 (blkOf b.ws (f p)).2.toNat 0 = aliveF a.ws (blkOf a.ws p).1 (blkOf a.ws p).2.toNat 0 ∧ (valW b.ws (f p + 2)).1 = (valW a.ws (p + 2)).1 := by
 have T := ha.tab hs hp hk
 have o := S.o p hp
 have hx : (2 : Int) ∈ slotsL (kdW a.ws p) (szW a.ws p) := by rw [hk, T.sz, slots_2]; simp
 have s := o.sl 2 hx
 refine ⟨o.raw 1 (by omega) (by rw [T.sz]; omega) fun x hx => by rw [hk, T.sz, slots_2] at hx; simp at hx; omega, ?_⟩
 rcases T.b with ⟨e1, e2⟩ | ⟨e1, e2, e3, e4, e5, e6, e7, e8, e9, e10, e11, e12⟩
 · have eb : blkOf b.ws (f p) = (0, 0) := by unfold blkOf; rw [if_pos (by rw [s.1]; exact e2)]
   rw [eb, e1]
   exact ⟨rfl, rfl, rfl, s.1⟩
 · have hr : isRefB (valW a.ws (p + 2)) = true := by unfold isRefB kindT; rw [e1]; rfl
   obtain ⟨q1, q2, q3⟩ := blk_same (okC_wf ha) hb S e3 e4 e12
   have eb : blkOf b.ws (f p) = (f (blkOf a.ws p).1, (blkOf a.ws p).2) := by
     have : blkOf b.ws (f p) = (whereW b.ws (valW b.ws (f p + 2)).2, blkN b.ws (whereW b.ws (valW b.ws (f p + 2)).2)) := by unfold blkOf; rw [if_neg (by rw [s.1, e1]; decide)]
     rw [this, s.2.2 hr, ← e8, q1, e7]
   rw [eb]
   have n1 := e5.n1
   refine ⟨rfl, q2 _ ?_, q3 _ 0 (Int.le_refl _) ?_, s.1⟩
   · rw [← e7]; show ((blkOf a.ws p).2.toNat : Int) ≤ _; omega
   · rw [← e7]; show (0 : Int) + ((blkOf a.ws p).2.toNat : Int) ≤ _; omega
theorem us_sm {a b : Ar} {f : Int → Int} (h : UsP a) (ha : OkC a) (hs : Shp a) (hb : b.wf) (S : SmF a b f) : UsP b := by
 intro q hq hk
 obtain ⟨p, hp, rfl⟩ := S.back hq
 rw [kd_c (S.o p hp).hd] at hk
 obtain ⟨k1, k2, k3, k4, k5⟩ := blkOf_sm ha hs hb S hp hk
 obtain ⟨u1, u2⟩ := h p hp hk
 rw [k1, k3, k2]
 exact ⟨u1, u2⟩
def rtA (a : Ar) (i : Int) : Vl := a.rs.getD i.toNat (0, 0)
def rnA (c : Ar) (p n r k f l : Int) : Ar :=
 { c with ws := setW (setW (setW (layW p n (fillF p n (blkOf c.ws (rtA c r).2).1 (blkOf c.ws (rtA c r).2).2.toNat 0 c.ws) (rtA c k) (rtA c f)) ((rtA c r).2 + 1) (uW l)) ((rtA c r).2 + 2) (uW 8)) ((rtA c r).2 + 2 + 1) (uW p) }
def gkR (b : Ar) (r k f : Int) : Ar × Int :=
 let l := 1 + aliveF b.ws (blkOf b.ws (rtA b r).2).1 (blkOf b.ws (rtA b r).2).2.toNat 0
 if growN l > 64 then (b, 1)
 else if (askA 3 (4 * growN l) b).2.2 = 0 then (rnA (askA 3 (4 * growN l) b).1 (askA 3 (4 * growN l) b).2.1 (growN l) r k f l, 0) else ((askA 3 (4 * growN l) b).1, (askA 3 (4 * growN l) b).2.2)
def skB (b : Ar) (r k f : Int) : Ar × Int :=
 let t := (rtA b r).2
 let e := findA b.ws (blkOf b.ws t).1 (blkOf b.ws t).2 (rtA b k)
 if e.2 = true then (putV b ((blkOf b.ws t).1 + 3 + 4 * e.1) (rtA b f), 0)
 else if (rtA b f).1 = 0 then (b, 0)
 else if 4 * (gw b.ws (t + 1) + 1) > 3 * (blkOf b.ws t).2 then gkR b r k f
 else ({ b with ws := setW (layW (blkOf b.ws t).1 (blkOf b.ws t).2 b.ws (rtA b k) (rtA b f)) (t + 1) (uW (gw b.ws (t + 1) + 1)) }, 0)
def skR (a : Ar) (r k f : Int) : Ar × Int := skB (ldA a ((rtA a r).2 + 2)) r k f
def skP (a : Ar) (r k f : Int) : Prop := okP a ∧ ((0 ≤ r ∧ r < a.rs.length) ∧ (rtA a r).1 = 4) ∧ (0 ≤ k ∧ k < a.rs.length) ∧ (0 ≤ f ∧ f < a.rs.length) ∧ (rtA a k).1 ≠ 0 ∧ (rtA a k).1 ≠ 9 ∧ (rtA a f).1 ≠ 9
open Classical in
noncomputable def skA (a : Ar) (r k f : Int) : Ar × Int := if skP a r k f then (if (skR a r k f).2 = 1 then (a, 1) else skR a r k f) else (a, 1)
structure SkOk (a : Ar) (r k f : Int) : Prop where
 ok : OkC a
 s : Shp a
 u : UsP a
 r0 : 0 ≤ r
 r1 : r < a.rs.length
 r4 : (rtA a r).1 = 4
 k0 : 0 ≤ k
 k1 : k < a.rs.length
 kn : (rtA a k).1 ≠ 0
 k9 : (rtA a k).1 ≠ 9
 f0 : 0 ≤ f
 f1 : f < a.rs.length
theorem SkOk.ref {a : Ar} {r k f : Int} (h : SkOk a r k f) : isRefB (rtA a r) = true := by unfold isRefB kindT; rw [h.r4]; rfl
theorem SkOk.root {a : Ar} {r k f : Int} (h : SkOk a r k f) : whereW a.ws (rtA a r).2 = (rtA a r).2 ∧ Reach a (rtA a r).2 := h.ok.root (j := r.toNat) (by have := h.r0; have := h.r1; omega) h.ref
theorem SkOk.kd {a : Ar} {r k f : Int} (h : SkOk a r k f) : kdW a.ws (rtA a r).2 = 2 := by
 have := h.s.kr r.toNat (by have := h.r0; have := h.r1; omega) h.ref
 have e := h.root.1
 unfold rtA at e
 rw [e] at this
 have e4 := h.r4
 unfold rtA at e4 ⊢
 rw [this, e4]
 rfl
theorem SkOk.tab {a : Ar} {r k f : Int} (h : SkOk a r k f) : TabB a (rtA a r).2 := h.ok.tab h.s h.root.2 h.kd
theorem SkOk.slot {a : Ar} {r k f : Int} (h : SkOk a r k f) : (2 : Int) ∈ slotsL (kdW a.ws (rtA a r).2) (szW a.ws (rtA a r).2) := by rw [h.kd, h.tab.sz, slots_2]; simp
theorem SkOk.key {a : Ar} {r k f : Int} (h : SkOk a r k f) : KeyS a (rtA a k) := ⟨.inl (.inl ⟨k.toNat, by have := h.k0; have := h.k1; omega, rfl⟩), h.kn, h.s.rr k.toNat (by have := h.k0; have := h.k1; omega), h.k9⟩
theorem SkOk.keyOk {a : Ar} {r k f : Int} (h : SkOk a r k f) : KeyOk a (rtA a k) := by
 obtain ⟨h1, h2, h3, h4⟩ := h.key
 rcases h1 with h1 | h1
 · exact h.ok.key h.s h1 h2 h3 h4
 · have nr : isRefB (rtA a k) = false := by unfold isRefB kindT; rw [h1]; rfl
   exact ⟨by unfold valOkB; rw [h1]; rfl, by omega, by omega, fun hr => (by rw [nr] at hr; cases hr), fun e => by omega⟩
theorem SkOk.sm {a b : Ar} {r k f : Int} (h : SkOk a r k f) (hb : OkC b) (S : Sm a b) : SkOk b r k f := by
 obtain ⟨g, S⟩ := S
 have tag : ∀ i : Int, 0 ≤ i → i < a.rs.length → (rtA b i).1 = (rtA a i).1 := fun i i0 i1 => (S.r i.toNat (by omega)).1
 exact ⟨hb, h.s.sm (okC_wf h.ok) S, us_sm h.u h.ok h.s (okC_wf hb) S, h.r0, by rw [S.rl]; exact h.r1, by rw [tag r h.r0 h.r1]; exact h.r4, h.k0, by rw [S.rl]; exact h.k1, by rw [tag k h.k0 h.k1]; exact h.kn, by rw [tag k h.k0 h.k1]; exact h.k9, h.f0, by rw [S.rl]; exact h.f1⟩
theorem SkOk.same {a b : Ar} {r k f : Int} (h : SkOk a r k f) (hb : OkC b) (S : Sm a b) : (blkOf b.ws (rtA b r).2).2 = (blkOf a.ws (rtA a r).2).2 ∧ aliveF b.ws (blkOf b.ws (rtA b r).2).1 (blkOf b.ws (rtA b r).2).2.toNat 0 = aliveF a.ws (blkOf a.ws (rtA a r).2).1 (blkOf a.ws (rtA a r).2).2.toNat 0 ∧ (rtA b f).1 = (rtA a f).1 := by
 have hb' := h.sm hb S
 obtain ⟨g, S⟩ := S
 have er := (S.r r.toNat (by have := h.r0; have := h.r1; omega)).2.2 h.ref
 have e : (rtA b r).2 = g (rtA a r).2 := by
   have e1 := hb'.root.1
   have e2 := h.root.1
   unfold rtA at e1 e2 ⊢
   rw [e1, e2] at er
   exact er
 obtain ⟨k1, k2, k3, k4, k5⟩ := blkOf_sm h.ok h.s (okC_wf hb) S h.root.2 h.kd
 rw [e]
 exact ⟨k2, k4, (S.r f.toNat (by have := h.f0; have := h.f1; omega)).1⟩
theorem SkOk.load {a : Ar} {r k f : Int} (h : SkOk a r k f) : SkOk (ldA a ((rtA a r).2 + 2)) r k f ∧ LdOk a (rtA a r).2 2 (ldA a ((rtA a r).2 + 2)) ∧ (∀ i, rtA (ldA a ((rtA a r).2 + 2)) i = rtA a i) := by
 have L := ld_ok h.ok (j := r.toNat) (by have := h.r0; have := h.r1; omega) h.ref (x := 2) h.slot
 have L : LdOk a (rtA a r).2 2 (ldA a ((rtA a r).2 + 2)) := L
 refine ⟨h.sm L.c L.s, L, fun i => ?_⟩
 have e := L.f.rs
 show (ldA a ((rtA a r).2 + 2)).rs.getD i.toNat (0, 0) = a.rs.getD i.toNat (0, 0)
 rw [e]
theorem skOk_of {a : Ar} {r k f : Int} (hw : a.wf) (h : skP a r k f) : SkOk a r k f := by
 obtain ⟨h0, ⟨⟨h1, h2⟩, h3⟩, ⟨h4, h5⟩, ⟨h6, h7⟩, h8, h9, h10⟩ := h
 exact ⟨by obtain ⟨mk, h0⟩ := h0; exact ok_cyc hw h0, shp_of hw h0, us_of hw h0, h1, h2, h3, h4, h5, h8, h9, h6, h7⟩
theorem OkC.apart {a : Ar} (h : OkC a) {p q : Int} (hp : Reach a p) (hq : Reach a q) (hne : p ≠ q) : p + szW a.ws p + 1 ≤ q ∨ q + szW a.ws q + 1 ≤ p := by
 rcases h with ⟨T1, h⟩ | ⟨T1, T2, h⟩
 · rcases Int.lt_or_gt_of_ne hne with k | k
   · exact .inl (h.c1.apart p (h.reach hp) q (h.reach hq) k)
   · exact .inr (h.c1.apart q (h.reach hq) p (h.reach hp) k)
 · have n := h.c.nums
   have one : ∀ p q, Live a T1 T2 p → Live a T1 T2 q → p < q → p + szW a.ws p + 1 ≤ q := by
     intro p q hp hq hlt
     rcases hp with hp | ⟨hp, op⟩ <;> rcases hq with hq | ⟨hq, oq⟩
     · exact h.c.c1.apart p hp q hq hlt
     · have := h.c.in1 hp; have := h.c.in2 hq; omega
     · have := h.c.in2 hp; have := h.c.in1 hq
       have ez : szC a.ws p = szW a.ws p := if_pos op
       omega
     · have := h.c.c2.apart p hp q hq hlt
       have ez : szC a.ws p = szW a.ws p := if_pos op
       omega
   rcases Int.lt_or_gt_of_ne hne with k | k
   · exact .inl (one p q (h.c.canon h.rc hp) (h.c.canon h.rc hq) k)
   · exact .inr (one q p (h.c.canon h.rc hq) (h.c.canon h.rc hp) k)
theorem SkOk.refIn {a : Ar} {r k f : Int} (h : SkOk a r k f) : OkC a → a.cyc = true → ∃ T1 T2, C0 a T1 T2 ∧ valOkB (valW a.ws ((rtA a r).2 + 2)) = true ∧ (isRefB (valW a.ws ((rtA a r).2 + 2)) = true → (valW a.ws ((rtA a r).2 + 2)).2 ∈ T1 ∨ (valW a.ws ((rtA a r).2 + 2)).2 ∈ T2) := by
 rintro (⟨T1, c⟩ | ⟨T1, T2, c⟩) hc
 · rw [c.cy] at hc; cases hc
 · have hl := c.c.canon c.rc h.root.2
   have hT : (rtA a r).2 ∈ T1 := (c.r _ (getD_mem (j := r.toNat) (by have := h.r0; have := h.r1; omega))).2 h.ref
   exact ⟨T1, T2, c.c, c.c.v1 _ hT 2 h.slot⟩
theorem growN_all (l : Int) : (growN l = 4 ∧ 4 * l ≤ 12) ∨ (growN l = 8 ∧ 12 < 4 * l ∧ 4 * l ≤ 24) ∨ (growN l = 16 ∧ 24 < 4 * l ∧ 4 * l ≤ 48) ∨ (growN l = 32 ∧ 48 < 4 * l ∧ 4 * l ≤ 96) ∨ (growN l = 64 ∧ 96 < 4 * l ∧ 4 * l ≤ 192) ∨ (growN l = 128 ∧ 192 < 4 * l) := by
 unfold growN
 by_cases c1 : 4 * l ≤ 12
 · rw [if_pos c1]; omega
 by_cases c2 : 4 * l ≤ 24
 · rw [if_neg c1, if_pos c2]; omega
 by_cases c3 : 4 * l ≤ 48
 · rw [if_neg c1, if_neg c2, if_pos c3]; omega
 by_cases c4 : 4 * l ≤ 96
 · rw [if_neg c1, if_neg c2, if_neg c3, if_pos c4]; omega
 by_cases c5 : 4 * l ≤ 192
 · rw [if_neg c1, if_neg c2, if_neg c3, if_neg c4, if_pos c5]; omega
 · rw [if_neg c1, if_neg c2, if_neg c3, if_neg c4, if_neg c5]; omega
theorem findG_yes {ws : List U64} {b n : Int} {key : Vl} (n0 : 0 < n) : ∀ (f : Nat) (i : Int), 0 ≤ i → i < n → (findG ws b n key f i).2 = true → 0 ≤ (findG ws b n key f i).1 ∧ (findG ws b n key f i).1 < n
 | 0, i, _, _, h => by cases h
 | f + 1, i, i0, i1, h => by
   unfold findG at h ⊢
   split
   · exact ⟨i0, i1⟩
   · rename_i c
     rw [if_neg c] at h
     split
     · exact ⟨i0, i1⟩
     · rename_i c2
       rw [if_neg c2] at h
       exact findG_yes n0 f _ (Int.emod_nonneg (i + 1) (show n ≠ 0 by omega)) (Int.emod_lt_of_pos (i + 1) n0) h
theorem find_yes {ws : List U64} {b n : Int} {key : Vl} (n0 : 0 ≤ n) (h0 : 0 ≤ hashA ws key) (h : (findA ws b n key).2 = true) : 0 < n ∧ 0 ≤ (findA ws b n key).1 ∧ (findA ws b n key).1 < n := by
 unfold findA at h ⊢
 split at h
 · cases h
 · rename_i c
   rw [if_neg c]
   by_cases e : n = 0
   · subst e; cases h
   · exact ⟨by omega, findG_yes (by omega) _ _ (Int.emod_nonneg _ (by omega)) (Int.emod_lt_of_pos _ (by omega)) h⟩
theorem find_room {ws : List U64} {b n : Int} {key : Vl} (n0 : 0 < n) (h0 : 0 ≤ hashA ws key) (hk : key.1 ≠ 0) (hu : usedW ws b n.toNat < n) : 0 ≤ (findA ws b n key).1 ∧ (findA ws b n key).1 < n := by
 have m0 := Int.emod_nonneg (hashA ws key) (show n ≠ 0 by omega)
 have m1 := Int.emod_lt_of_pos (hashA ws key) n0
 unfold findA
 rw [if_neg hk]
 rcases findG_in (ws := ws) (b := b) (key := key) n0 n.toNat (hashA ws key % n) m0 m1 with e | e
 · exfalso
   have all : ∀ i : Int, 0 ≤ i → i < (n.toNat : Int) → gw ws (b + 1 + 4 * i) ≠ 0 := by
     intro i i0 i1 e0
     obtain ⟨x, ex⟩ : ∃ x, x = hashA ws key % n := ⟨_, rfl⟩
     rw [← ex] at e m0 m1
     by_cases c : x ≤ i
     · have := e.2 (i - x).toNat (by omega)
       rw [show x + ((i - x).toNat : Int) = i by omega, Int.emod_eq_of_lt i0 (by omega)] at this
       exact this (by unfold valW; rw [e0]; rfl)
     · have := e.2 (i - x + n).toNat (by omega)
       rw [show x + ((i - x + n).toNat : Int) = i + n by omega, Int.add_emod_right, Int.emod_eq_of_lt i0 (by omega)] at this
       exact this (by unfold valW; rw [e0]; rfl)
   have := used_all n.toNat all
   omega
 · exact e
theorem growN_ok (l : Int) (h0 : 1 ≤ l) (h : growN l ≤ 64) : (growN l = 4 ∨ growN l = 8 ∨ growN l = 16 ∨ growN l = 32 ∨ growN l = 64) ∧ 4 * l ≤ 3 * growN l ∧ sizeB 3 (4 * growN l) = true ∧ 1 ≤ growN l := by
 have e : (growN l = 4 ∧ 4 * l ≤ 12) ∨ (growN l = 8 ∧ 4 * l ≤ 24) ∨ (growN l = 16 ∧ 4 * l ≤ 48) ∨ (growN l = 32 ∧ 4 * l ≤ 96) ∨ (growN l = 64 ∧ 4 * l ≤ 192) := by
   unfold growN at h ⊢
   split
   · omega
   · split
     · omega
     · split
       · omega
       · split
         · omega
         · split
           · omega
           · rename_i c1 c2 c3 c4 c5
             rw [if_neg c1, if_neg c2, if_neg c3, if_neg c4, if_neg c5] at h
             omega
 refine ⟨by omega, by omega, ?_, by omega⟩
 unfold sizeB
 rw [if_neg (by decide), if_neg (by decide), if_pos rfl, decide_eq_true_eq]
 omega
structure Old (c : Ar) (b n : Int) : Prop where
 b : n = 0 ∨ Reach c b ∧ kdW c.ws b = 3 ∧ szW c.ws b = 4 * n ∧ sizeB 3 (szW c.ws b) = true
 n0 : 0 ≤ n
 n1 : n ≤ 64
theorem SkOk.old {a : Ar} {r k f : Int} (h : SkOk a r k f) : Old a (blkOf a.ws (rtA a r).2).1 (blkOf a.ws (rtA a r).2).2 := by
 rcases h.tab.b with ⟨e1, e2⟩ | ⟨e1, e2, e3, e4, e5, e6, e7, e8, e9, e10, e11, e12⟩
 · rw [e1]; exact ⟨.inl rfl, by decide, by decide⟩
 · exact ⟨.inr ⟨e3, e4, e6, e12⟩, by have := e5.n1; omega, e5.n2⟩
theorem Old.src {c : Ar} {b n : Int} (h : Old c b n) (hc : OkC c) (hs : Shp c) {i : Int} (i0 : 0 ≤ i) (i1 : i < n) : Src c (valW c.ws (b + 1 + 4 * i)) ∧ Src c (valW c.ws (b + 3 + 4 * i)) ∧ ((valW c.ws (b + 1 + 4 * i)).1 ≠ 0 → KeyS c (valW c.ws (b + 1 + 4 * i))) := by
 obtain ⟨hq, hk, hz, h3⟩ := h.b.resolve_left (by omega)
 obtain ⟨s1, s2⟩ := slots_3 h3 i0 (by rw [hz]; omega)
 have k1 : Src c (valW c.ws (b + (1 + 4 * i))) := .inr ⟨b, _, hq, by rw [hk]; exact s1, rfl⟩
 have k2 : Src c (valW c.ws (b + (3 + 4 * i))) := .inr ⟨b, _, hq, by rw [hk]; exact s2, rfl⟩
 have r := rule_3 (by have := hs.rl b hq _ (by rw [hk]; exact s1); rwa [hk] at this)
 rw [show b + (1 + 4 * i) = b + 1 + 4 * i by omega] at k1 r
 rw [show b + (3 + 4 * i) = b + 3 + 4 * i by omega] at k2
 exact ⟨k1, k2, fun e => ⟨.inl k1, e, r⟩⟩
theorem Old.fill {c : Ar} {b n p m : Int} {w : List U64} {cnt : Int} (h : Old c b n) (hF : Fill c p m w cnt) (g : Grd c p m) {i : Int} (i0 : 0 ≤ i) (i1 : i < n) : valW w (b + 1 + 4 * i) = valW c.ws (b + 1 + 4 * i) ∧ valW w (b + 3 + 4 * i) = valW c.ws (b + 3 + 4 * i) := by
 obtain ⟨hq, hk, hz, h3⟩ := h.b.resolve_left (by omega)
 have e := fun (y : Int) (y0 : 0 ≤ y) (y1 : y ≤ szW c.ws b) => hF.obj g hq y0 y1
 constructor
 · refine val_c ?_ ?_
   · have := e (1 + 4 * i) (by omega) (by omega); rwa [show b + (1 + 4 * i) = b + 1 + 4 * i by omega] at this
   · have := e (1 + 4 * i + 1) (by omega) (by omega); rwa [show b + (1 + 4 * i + 1) = b + 1 + 4 * i + 1 by omega] at this
 · refine val_c ?_ ?_
   · have := e (3 + 4 * i) (by omega) (by omega); rwa [show b + (3 + 4 * i) = b + 3 + 4 * i by omega] at this
   · have := e (3 + 4 * i + 1) (by omega) (by omega); rwa [show b + (3 + 4 * i + 1) = b + 3 + 4 * i + 1 by omega] at this
theorem Old.alive {c : Ar} {b n p m : Int} {w : List U64} {cnt : Int} (h : Old c b n) (hF : Fill c p m w cnt) (g : Grd c p m) {i : Int} (i0 : 0 ≤ i) (i1 : i < n) : aliveB w b i = aliveB c.ws b i := by
 obtain ⟨e1, e2⟩ := h.fill hF g i0 i1
 unfold aliveB
 rw [e1, e2]
theorem Old.step {c : Ar} {b n p m : Int} {w : List U64} {cnt : Int} (h : Old c b n) (hF : Fill c p m w cnt) (g : Grd c p m) {f : Nat} {i : Int} (i0 : 0 ≤ i) (i1 : i < n) (hr : cnt + aliveF c.ws b (f + 1) i < m) :
   ∃ cnt', Fill c p m (if aliveB w b i = true then layW p m w (valW w (b + 1 + 4 * i)) (valW w (b + 3 + 4 * i)) else w) cnt' ∧ cnt' + aliveF c.ws b f (i + 1) = cnt + aliveF c.ws b (f + 1) i ∧ (aliveB w b i = true → cnt < m ∧ KeyS c (valW w (b + 1 + 4 * i))) := by
 have ea := h.alive hF g i0 i1
 obtain ⟨e1, e2⟩ := h.fill hF g i0 i1
 obtain ⟨s1, s2, s3⟩ := h.src g.ok g.s i0 i1
 have ar := aliveF_range c.ws b f (i + 1)
 have er : aliveF c.ws b (f + 1) i = (if aliveB c.ws b i = true then 1 else 0) + aliveF c.ws b f (i + 1) := rfl
 by_cases c1 : aliveB w b i = true
 · rw [if_pos c1]
   rw [ea] at c1
   rw [if_pos c1] at er
   have hk : KeyS c (valW w (b + 1 + 4 * i)) := by
     rw [e1]
     refine s3 fun e => ?_
     unfold aliveB at c1
     rw [e] at c1
     simp at c1
   exact ⟨cnt + 1, hF.lay g (by omega) hk _, by omega, fun _ => ⟨by omega, hk⟩⟩
 · rw [if_neg c1]
   have c2 := c1
   rw [ea] at c2
   rw [if_neg c2] at er
   exact ⟨cnt, hF, by omega, fun e => absurd e c1⟩
theorem SkOk.grow {b : Ar} {r k f : Int} (h : SkOk b r k f) {l : Int} (hl : l = 1 + aliveF b.ws (blkOf b.ws (rtA b r).2).1 (blkOf b.ws (rtA b r).2).2.toNat 0) (hg : growN l ≤ 64) :
   SkOk (askA 3 (4 * growN l) b).1 r k f ∧ ((askA 3 (4 * growN l) b).2.2 = 0 ∧ Grd (askA 3 (4 * growN l) b).1 (askA 3 (4 * growN l) b).2.1 (growN l) ∧ l = 1 + aliveF (askA 3 (4 * growN l) b).1.ws (blkOf (askA 3 (4 * growN l) b).1.ws (rtA (askA 3 (4 * growN l) b).1 r).2).1 (blkOf (askA 3 (4 * growN l) b).1.ws (rtA (askA 3 (4 * growN l) b).1 r).2).2.toNat 0 ∨ (askA 3 (4 * growN l) b).2.2 = 2) := by
 have ar := aliveF_range b.ws (blkOf b.ws (rtA b r).2).1 (blkOf b.ws (rtA b r).2).2.toNat 0
 obtain ⟨g1, g2, g3, g4⟩ := growN_ok l (by omega) hg
 obtain ⟨u1, u2, u3⟩ := ask_sm h.ok g3 (fun e => absurd e (by decide))
 have hs := h.sm u1 u2
 refine ⟨hs, u3.imp (fun k => ⟨k.1, ⟨u1, hs.s, k.2, g4, hg⟩, ?_⟩) id⟩
 rw [(h.same u1 u2).2.1]
 exact hl
def ldT (call : FuncId → Spec) (Q : Value → Mem → Prop) (a0g : Nat) (a1 a2 : Int) (g1 : Nat) (y9 y10 : Int) (m8 : Mem) : Prop :=
 (newA m8 (.cells #[(.int .i64 (0 : Int)), (.int .i64 (0 : Int))] 58 (0, 0)) fun g11 m12 => (stoA m12 ⟨g11, 0, none⟩ [(.int .i64 y9), (.int .i64 y10)] fun m13 => (∃ y14 : Int, (ciK m13 g11 0 y14 ∧ (∃ y16 : Int, (ciK m13 g11 1 y16 ∧ (call 80 [(.pointer (some ⟨a0g, 0, none⟩)), (.int .i64 (IntKind.i64.wrap (a1 + a2))), (.agg #[(.int .i64 y14), (.int .i64 y16)])] m13 fun v18 m19 => (v18 = (.tuple #[]) ∧ (∃ y20 : Int, (ciK m19 g11 0 y20 ∧ (∃ y22 : Int, (ciK m19 g11 1 y22 ∧ (stoA m19 ⟨g1, 0, none⟩ [(.int .i64 y20), (.int .i64 y22)] fun m24 => (∃ y25 : Int, (ciK m24 g1 0 y25 ∧ (∃ y27 : Int, (ciK m24 g1 1 y27 ∧ ret Q (.agg #[(.int .i64 y25), (.int .i64 y27)]) m24)))))))))))))))))
theorem setW_id {ws : List U64} {i : Int} (i0 : 0 ≤ i) (i1 : i < ws.length) : setW ws i (gw ws i) = ws := setW_same i0 i1 rfl
theorem uW_wrap {x : Int} (h : inW x) : uW (IntKind.i64.wrap x) = x := by
 unfold inW at h
 unfold uW IntKind.wrap
 simp [IntKind.bits, IntKind.signed] <;> omega
theorem putV_id {a : Ar} (hw : a.wf) {i : Int} (i0 : 0 ≤ i) (i1 : i + 1 < a.ws.length) : putV a i (valW a.ws i) = a := by
 have e : (putV a i (valW a.ws i)).ws = a.ws := by
   show setW (setW a.ws i (uW (IntKind.i64.wrap (gw a.ws i)))) (i + 1) (uW (IntKind.i64.wrap (gw a.ws (i + 1)))) = a.ws
   rw [uW_wrap (gw_in hw.w i), uW_wrap (gw_in hw.w (i + 1)), setW_id i0 (by omega), setW_id (by omega) i1]
 show { a with ws := (putV a i (valW a.ws i)).ws } = a
 rw [e]
def ldV (a : Ar) (i : Int) : Vl := if a.cyc = true then (fwdA a (valW a.ws i)).2 else valW a.ws i
theorem ldT_ok (t : Tab) (h80 : look t 80 = s80) {Q : Value → Mem → Prop} {g g1 : Nat} {s r : Sl} {b : Ar} {D : List Nat} {at_ sl : Int} {v : Vl} {M m0 : Mem} (im : Im M g s r b D) (hO : Off (g :: D) m0 M) (z1 : m0 g1 = none) (d1 : g1 ∉ g :: D) (h1 : M g1 = some (.cells #[.int .i64 0, .int .i64 0] 58 (0, 0)))
   (i0 : 0 ≤ at_ + sl) (i1 : at_ + sl + 1 < b.ws.length) (hl : b.ws.length ≤ 2 ^ 20) (hQ : ∀ m', (∀ b, b ∉ g :: D → m' b = m0 b) → Im m' g s r (putV b (at_ + sl) v) D → Q (vVl v) m') : ldT (look t) Q g at_ sl g1 v.1 v.2 M := by
 unfold ldT
 have w1 : IntKind.i64.wrap (at_ + sl) = at_ + sl := w64 (by omega) (by omega)
 refine newA_intro fun g2 m2 hg2 e2 hb2 le2 => sto (c := #[.int .i64 0, .int .i64 0]) (t := 58) hb2 rfl (by simp) fun m3 e3 q3 ne3 => ?_
 have q3 : m3 g2 = some (.cells #[.int .i64 v.1, .int .i64 v.2] 58 (0, 0)) := q3
 have l3 : Mem.le M m3 := le_other le2 hg2 ne3
 have im3 := im.le l3
 have d2 : g2 ∉ g :: D := im.fresh hg2
 have n12 : g1 ≠ g2 := ne_of_none hg2 h1
 rw [w1]
 refine ⟨_, cell_of q3 0, _, cell_of q3 1, via h80 ⟨g, s, r, b, D, at_ + sl, v, rfl, im3, i0, i1, hl, fun m4 o4 im4 => ⟨rfl, ?_⟩⟩⟩
 have q4 : m4 g2 = some (.cells #[.int .i64 v.1, .int .i64 v.2] 58 (0, 0)) := (o4 g2 d2).trans q3
 have h4 : m4 g1 = some (.cells #[.int .i64 0, .int .i64 0] 58 (0, 0)) := (o4 g1 d1).trans (l3 _ _ h1)
 refine ⟨_, cell_of q4 0, _, cell_of q4 1, sto (c := #[.int .i64 0, .int .i64 0]) (t := 58) h4 rfl (by simp) fun m5 e5 q5 ne5 => ?_⟩
 have q5 : m5 g1 = some (.cells #[.int .i64 v.1, .int .i64 v.2] 58 (0, 0)) := q5
 refine ⟨_, cell_of q5 0, _, cell_of q5 1, ?_⟩
 exact ret_off (((hO.trans (Off.of_le l3)).trans (Off.of_eq o4)).fresh z1 ne5) (hQ _ (fun b hb => mix_off hb) (Im.mix (im4.ext fun q hq => ne5 q fun e => d1 (e ▸ hq))))
def s84 : Spec := fun args m Q => ∃ (g : Nat) (s r : Sl) (a : Ar) (D : List Nat) (p x : Int), args = [.pointer (some ⟨g, 0, none⟩), .int .i64 p, .int .i64 x] ∧ Im m g s r a D ∧ a.wf ∧ 0 ≤ p + x ∧ p + x + 1 < a.ws.length ∧ a.ws.length ≤ 2 ^ 20 ∧ (a.cyc = true → RefIn a (valW a.ws (p + x))) ∧
 ∀ m', (∀ b, b ∉ g :: D → m' b = m b) → Im m' g s r (ldA a (p + x)) D → Q (vVl (ldV a (p + x))) m'
theorem f84 (t : Tab) (h125 : look t 125 = s125) (h124 : look t 124 = s124) (h80 : look t 80 = s80) : ∀ args m Q, s84 args m Q → FA Tryz.prog (look t) kp84 Tryz.f84 args m Q := by
 rintro args m Q ⟨g, s, r, a, D, p, x, rfl, im, hw, i0, i1, hl, hR, hQ⟩
 rw [e84]
 have w1 : IntKind.i64.wrap (p + x) = p + x := w64 (by omega) (by omega)
 refine newA_intro fun g1 m1 hg1 e1 hb1 le1 => ?_
 have im1 := im.le le1
 refine via h125 ⟨g, s, r, a, p + x, by rw [w1], ⟨im1.p, im1.w.at, hw, i0, by omega⟩, i1, _, _, rfl, ?_⟩
 have d1 : g1 ∉ g :: D := im.fresh hg1
 unfold ldA ldV at hQ
 cases hc : a.cyc with
 | false =>
   rw [hc] at hQ
   simp only [Bool.false_eq_true, if_false] at hQ
   refine via h124 ⟨g, s, r, a, D, valW a.ws (p + x), rfl, im1, .inl ⟨hc, _, _, rfl, ?_⟩⟩
   show ldT (look t) Q g p x g1 (valW a.ws (p + x)).1 (valW a.ws (p + x)).2 m1
   exact ldT_ok t h80 im1 (Off.of_le le1) hg1 d1 hb1 i0 i1 hl fun m' o' im' => hQ m' o' (by rwa [putV_id hw i0 i1] at im')
 | true =>
   rw [hc] at hQ
   simp only [if_true] at hQ
   have R := hR hc
   refine via h124 ⟨g, s, r, a, D, valW a.ws (p + x), rfl, im1, .inr ⟨R, fun m2 o2 im2 => ⟨_, _, rfl, ?_⟩⟩⟩
   obtain ⟨T1, T2, hC, v1, v2⟩ := R
   obtain ⟨Ta, F⟩ := fwd_ok hC v1 v2
   have el := F.f.len
   show ldT (look t) Q g p x g1 (fwdA a (valW a.ws (p + x))).2.1 (fwdA a (valW a.ws (p + x))).2.2 m2
   refine ldT_ok t h80 im2 ((Off.of_le le1).trans (Off.of_eq o2)) hg1 d1 ((o2 g1 d1).trans hb1) i0 (by rw [el]; exact i1) (by rw [el]; exact hl) hQ
def s128 : Spec := fun args m Q => ∃ (g : Nat) (s r : Sl) (a : Ar) (b i : Int), args = [.pointer (some ⟨g, 0, none⟩), .int .i64 b, .int .i64 i] ∧ Ptr m g s r a ∧ ArAt m s r a ∧ a.wf ∧ 0 ≤ b ∧ 0 ≤ i ∧ b + 3 + 4 * i + 1 < a.ws.length ∧ Q (.bool (aliveB a.ws b i)) m
theorem f128 (t : Tab) (h125 : look t 125 = s125) : ∀ args m Q, s128 args m Q → FA Tryz.prog (look t) kp128 Tryz.f128 args m Q := by
 intro args m Q h
 obtain ⟨g, s, r, a, b, i, ha, hp, hA, hw, b0, i0, hb, hQ⟩ := h
 have hn := hw.n
 rw [ha, e128]
 have w1 : IntKind.i64.wrap (IntKind.i64.wrap (b + 1) + IntKind.i64.wrap (4 * i)) = b + 1 + 4 * i := by rw [w64 (x := b + 1) (by omega) (by omega), w64 (x := 4 * i) (by omega) (by omega), w64 (by omega) (by omega)]
 have w3 : IntKind.i64.wrap (IntKind.i64.wrap (b + 3) + IntKind.i64.wrap (4 * i)) = b + 3 + 4 * i := by rw [w64 (x := b + 3) (by omega) (by omega), w64 (x := 4 * i) (by omega) (by omega), w64 (by omega) (by omega)]
 rw [w1, w3]
 refine via h125 ⟨g, s, r, a, _, rfl, ⟨hp, hA, hw, by omega, by omega⟩, by omega, _, _, rfl, ?_⟩
 unfold aliveB at hQ
 by_cases c : (valW a.ws (b + 1 + 4 * i)).1 = 0
 · rw [if_neg (by simpa using c)]
   exact ret_bool (Mem.le_refl _) hQ (by rw [c]; rfl)
 · rw [if_pos (by simpa using c)]
   refine via h125 ⟨g, s, r, a, _, rfl, ⟨hp, hA, hw, by omega, by omega⟩, by omega, _, _, rfl, ?_⟩
   exact ret_bool (Mem.le_refl _) hQ (by simp [c])
def s88 : Spec := fun args m Q => ∃ (g : Nat) (s r : Sl) (a : Ar) (b : Int) (n : Nat), args = [.pointer (some ⟨g, 0, none⟩), .int .i64 b] ∧ Ptr m g s r a ∧ ArAt m s r a ∧ a.wf ∧ 0 ≤ b ∧ n ≤ 64 ∧ (n : Int) = szW a.ws b / 4 ∧ b + 4 * (n : Int) < a.ws.length ∧ Q (.int .i64 (aliveF a.ws b n 0)) m
theorem f88 (t : Tab) (h86 : look t 86 = s86) (h128 : look t 128 = s128) : ∀ args m Q, s88 args m Q → FA Tryz.prog (look t) kp88 Tryz.f88 args m Q := by
 rintro args m Q ⟨g, s, r, a, b, n, rfl, hp, hA, hw, b0, n1, hn, hb, hQ⟩
 have hl := hw.n
 have hz := szW_0 hw.w b
 rw [e88]
 refine via h86 ⟨g, s, r, a, b, rfl, ⟨hp, hA, hw, b0, by omega⟩, _, _, _, rfl, by decide, n + 1, ?_⟩
 have e4 : IntKind.i64.wrap (Int.tdiv (lookW a.ws b).2.1 4) = (n : Int) := by
   show IntKind.i64.wrap (Int.tdiv (szW a.ws b) 4) = _
   rw [Int.tdiv_eq_ediv_of_nonneg hz.1, ← hn, w64 (by omega) (by omega)]
 rw [e4]
 suffices key : ∀ (d i : Nat), i + d = n → ∀ x : Int, 0 ≤ x → x ≤ i → x + aliveF a.ws b d i = aliveF a.ws b n 0 → ∀ M : Mem, Mem.le m M → L88_3 (look t) (d + 1) Q g b x (n : Int) (i : Int) M from key n 0 (by omega) 0 (by omega) (by omega) (by simp) m (Mem.le_refl _)
 intro d
 induction d with
 | zero =>
   intro i hi x x0 x1 hx M hM
   rw [l88_3]
   refine ⟨M, Mem.le_refl _, ?_⟩
   rw [if_neg (by simp; omega)]
   exact ret_int hM hQ (by rw [← hx]; show x = x + 0; omega)
 | succ d ih =>
   intro i hi x x0 x1 hx M hM
   rw [l88_3]
   refine ⟨M, Mem.le_refl _, ?_⟩
   rw [if_pos (by simp; omega)]
   refine via h128 ⟨g, s, r, a, b, (i : Int), rfl, hM _ _ hp, hA.le hM, hw, b0, by omega, by omega, _, rfl, ?_⟩
   have ei : IntKind.i64.wrap ((i : Int) + 1) = ((i + 1 : Nat) : Int) := wsucc (n := i + 1) (by omega) (by omega)
   have ex : IntKind.i64.wrap (x + 1) = x + 1 := w64 (by omega) (by omega)
   rw [show aliveF a.ws b (d + 1) i = (if aliveB a.ws b i = true then 1 else 0) + aliveF a.ws b d ((i : Int) + 1) from rfl] at hx
   rw [ei, ex]
   by_cases c : aliveB a.ws b i = true
   · rw [if_pos c]
     rw [if_pos c] at hx
     exact ih (i + 1) (by omega) (x + 1) (by omega) (by omega) (by rw [show ((i + 1 : Nat) : Int) = (i : Int) + 1 by omega]; omega) M hM
   · rw [if_neg c]
     rw [if_neg c] at hx
     exact ih (i + 1) (by omega) x (by omega) (by omega) (by rw [show ((i + 1 : Nat) : Int) = (i : Int) + 1 by omega]; omega) M hM
def s87 : Spec := fun args m Q => ∃ (g : Nat) (s r : Sl) (a : Ar) (D : List Nat) (p n : Int) (k v : Vl), args = [.pointer (some ⟨g, 0, none⟩), .int .i64 p, vVl k, vVl v] ∧ Im m g s r a D ∧ a.sm ∧ a.wf ∧ BlkOk a p n ∧ n = szW a.ws p / 4 ∧ KeyOk a k ∧ 0 ≤ (findA a.ws p n k).1 ∧ (findA a.ws p n k).1 < n ∧
 ∀ m', (∀ b, b ∉ g :: D → m' b = m b) → Im m' g s r { a with ws := layW p n a.ws k v } D → Q (.tuple #[]) m'
theorem f87 (t : Tab) (h85 : look t 85 = s85) (h80 : look t 80 = s80) : ∀ args m Q, s87 args m Q → FA Tryz.prog (look t) kp87 Tryz.f87 args m Q := by
 rintro args m Q ⟨g, s, r, a, D, p, n, k, v, rfl, im, hsm, hw, hB, hn, hK, f0, f1, hQ⟩
 have hl := hw.n
 have hb := hB.bn
 have hb0 := hB.b0
 have hn1 := hB.n1
 show FA Tryz.prog (look t) kp87 Tryz.f87 [.pointer (some ⟨g, 0, none⟩), .int .i64 p, .agg #[.int .i64 k.1, .int .i64 k.2], .agg #[.int .i64 v.1, .int .i64 v.2]] m Q
 rw [e87]
 refine newA_intro fun g1 m1 hg1 e1 hb1 le1 => newA_intro fun g3 m3 hg3 e3 hb3 le3 => ?_
 have l3 := Mem.le_trans le1 le3
 have im3 := im.le l3
 have d1 : g1 ∉ g :: D := im.fresh hg1
 have d3 : g3 ∉ g :: D := (im.le le1).fresh hg3
 have h1 := le3 _ _ hb1
 refine ⟨_, cell_of h1 0, _, cell_of h1 1, via h85 ⟨g, s, r, a, p, n, k, rfl, im3.p, im3.w.at, hsm, hw, hB, hn, hK, _, _, rfl, _, cell_of h1 0, _, cell_of h1 1, ?_⟩⟩
 unfold layW at hQ
 generalize (findA a.ws p n k).1 = e at *
 have w1 : IntKind.i64.wrap (IntKind.i64.wrap (p + 1) + IntKind.i64.wrap (4 * e)) = p + 1 + 4 * e := by rw [w64 (x := p + 1) (by omega) (by omega), w64 (x := 4 * e) (by omega) (by omega), w64 (by omega) (by omega)]
 have w3 : IntKind.i64.wrap (IntKind.i64.wrap (p + 3) + IntKind.i64.wrap (4 * e)) = p + 3 + 4 * e := by rw [w64 (x := p + 3) (by omega) (by omega), w64 (x := 4 * e) (by omega) (by omega), w64 (by omega) (by omega)]
 rw [w1, w3]
 refine via h80 ⟨g, s, r, a, D, p + 1 + 4 * e, k, rfl, im3, by omega, by omega, by omega, fun m4 o4 im4 => ⟨rfl, ?_⟩⟩
 have h3 : m4 g3 = some (.cells #[.int .i64 v.1, .int .i64 v.2] 58 (0, 0)) := (o4 g3 d3).trans hb3
 refine ⟨_, cell_of h3 0, _, cell_of h3 1, via h80 ⟨g, s, r, putV a (p + 1 + 4 * e) k, D, p + 3 + 4 * e, v, rfl, im4, by omega, by rw [put_len]; omega, by rw [put_len]; omega, fun m5 o5 im5 => ⟨rfl, ?_⟩⟩⟩
 exact ret_off (((Off.of_le l3).trans (Off.of_eq o4)).trans (Off.of_eq o5)) (hQ _ (fun b hb => mix_off hb) im5.mix)
def rnT (call : FuncId → Spec) (Q : Value → Mem → Prop) (x0g : Nat) (x1 x2 : Int) (x8g x9g : Nat) (x10 : Int) (m45 : Mem) : Prop :=
 (∃ y59 : Int, (ciK m45 x8g 0 y59 ∧ (∃ y61 : Int, (ciK m45 x8g 1 y61 ∧ (∃ y63 : Int, (ciK m45 x9g 0 y63 ∧ (∃ y65 : Int, (ciK m45 x9g 1 y65 ∧ (call 87 [(.pointer (some ⟨x0g, 0, none⟩)), (.int .i64 x2), (.agg #[(.int .i64 y59), (.int .i64 y61)]), (.agg #[(.int .i64 y63), (.int .i64 y65)])] m45 fun v67 m68 => (v67 = (.tuple #[]) ∧ (call 80 [(.pointer (some ⟨x0g, 0, none⟩)), (.int .i64 (IntKind.i64.wrap (x1 + (2 : Int)))), (.agg #[(.int .i64 (8 : Int)), (.int .i64 x2)])] m68 fun v69 m70 => (v69 = (.tuple #[]) ∧ (∃ (ra71 : Option Addr) (rn72 rc73 : Nat), (csK m70 x0g 0 ra71 rn72 rc73 ∧ (optA ra71 fun d75 => (0 ≤ (IntKind.i64.wrap (x1 + (1 : Int))) ∧ (IntKind.i64.wrap (x1 + (1 : Int))) < ((rn72 : Nat) : Int) ∧ (stoA m70 (d75.add (Int.toNat (IntKind.i64.wrap (x1 + (1 : Int))) * 1)) [(.int .u64 (IntKind.u64.wrap x10))] fun m76 => ret Q (.tuple #[]) m76)))))))))))))))))
theorem setW_comm {ws : List U64} {i j x y : Int} (i0 : 0 ≤ i) (j0 : 0 ≤ j) (h : i ≠ j) : setW (setW ws i x) j y = setW (setW ws j y) i x := by
 unfold setW
 exact List.set_comm _ _ (by omega)
def rnW (p n t l : Int) (w : List U64) (k v : Vl) : List U64 := setW (setW (setW (layW p n w k v) (t + 1) (uW l)) (t + 2) (uW 8)) (t + 2 + 1) (uW p)
theorem rnT_ok (t : Tab) (h87 : look t 87 = s87) (h80 : look t 80 = s80) {Q : Value → Mem → Prop} {g g1 g3 : Nat} {s r : Sl} {c : Ar} {D : List Nat} {p n tb l cnt : Int} {w : List U64} {k v : Vl} {M m0 : Mem} (gr : Grd c p n) (hF : Fill c p n w cnt) (hc : cnt < n) (hk : KeyS c k)
   (im : Im M g s r { c with ws := w } D) (hO : Off (g :: D) m0 M) (d1 : g1 ∉ g :: D) (d3 : g3 ∉ g :: D) (h1 : M g1 = some (.cells #[.int .i64 k.1, .int .i64 k.2] 58 (0, 0))) (h3 : M g3 = some (.cells #[.int .i64 v.1, .int .i64 v.2] 58 (0, 0)))
   (t0 : 1 ≤ tb) (t1 : tb + 4 ≤ c.ws.length) (hQ : ∀ m', (∀ b, b ∉ g :: D → m' b = m0 b) → Im m' g s r { c with ws := rnW p n tb l w k v } D → Q (.tuple #[]) m') : rnT (look t) Q g tb p g1 g3 l M := by
 unfold rnT
 have hl := hF.len
 have hcn := (okC_wf gr.ok).n
 have f := hF.find gr hc hk
 have hsz : n = szW w p / 4 := by
   have p0 := gr.nw.p0
   have e : gw w p = gw c.ws p := hF.out p (by omega) (.inl (Int.le_refl _))
   rw [sz_c e, gr.nw.sz]
   omega
 refine ⟨_, cell_of h1 0, _, cell_of h1 1, _, cell_of h3 0, _, cell_of h3 1, via h87 ⟨g, s, r, { c with ws := w }, D, p, n, k, v, rfl, im, ?_, hF.wf gr, hF.blk gr, hsz, hF.keyOk gr hk, f.1, f.2, fun m1 o1 im1 => ⟨rfl, ?_⟩⟩⟩
 · have sm := gr.ok.num.1.sm
   exact ⟨sm.s0, sm.s1, sm.t0, sm.t1, by show (w.length : Int) = _; rw [hl]; exact sm.l⟩
 have ll : (layW p n w k v).length = c.ws.length := by rw [lay_len, hl]
 have w2 : IntKind.i64.wrap (tb + 2) = tb + 2 := w64 (by omega) (by omega)
 have w1 : IntKind.i64.wrap (tb + 1) = tb + 1 := w64 (by omega) (by omega)
 refine via h80 ⟨g, s, r, { c with ws := layW p n w k v }, D, tb + 2, (8, p), by rw [w2]; rfl, im1, by omega, by show tb + 2 + 1 < ((layW p n w k v).length : Int); omega, by show (layW p n w k v).length ≤ _; omega, fun m2 o2 im2 => ⟨rfl, _, _, _, cell_of im2.p 0, ?_⟩⟩
 rw [w1]
 refine im2.put_w (by omega) (by show tb + 1 < ((setW (setW (layW p n w k v) _ _) _ _).length : Int); simp only [setW_len]; omega) fun m3 o3 im3 => ?_
 refine ret_off (((hO.trans (Off.of_eq o1)).trans (Off.of_eq o2)).trans (Off.of_eq fun q hq => o3 q fun h => hq (by simp [h]))) (hQ _ (fun b hb => mix_off hb) ?_)
 have e : setW (setW (setW (layW p n w k v) (tb + 2) (uW 8)) (tb + 2 + 1) (uW p)) (tb + 1) (uW l) = rnW p n tb l w k v := by
   unfold rnW
   rw [setW_comm (i := tb + 2 + 1) (by omega) (by omega) (by omega), setW_comm (i := tb + 2) (j := tb + 1) (by omega) (by omega) (by omega)]
 have im3' : Im m3 g s r { c with ws := setW (setW (setW (layW p n w k v) (tb + 2) (uW 8)) (tb + 2 + 1) (uW p)) (tb + 1) (uW l) } D := im3
 rw [e] at im3'
 exact im3'.mix
def s89 : Spec := fun args m Q => ∃ (g : Nat) (s r : Sl) (c : Ar) (D : List Nat) (p n l ri ki fi : Int), args = [.pointer (some ⟨g, 0, none⟩), .int .i64 (rtA c ri).2, .int .i64 p, vVl (rtA c ki), vVl (rtA c fi)] ∧ Im m g s r c D ∧ SkOk c ri ki fi ∧ Grd c p n ∧ l = 1 + aliveF c.ws (blkOf c.ws (rtA c ri).2).1 (blkOf c.ws (rtA c ri).2).2.toNat 0 ∧ l ≤ n ∧
 ∀ m', (∀ b, b ∉ g :: D → m' b = m b) → Im m' g s r (rnA c p n ri ki fi l) D → Q (.tuple #[]) m'
theorem f89 (t : Tab) (h125 : look t 125 = s125) (h129 : look t 129 = s129) (h86 : look t 86 = s86) (h128 : look t 128 = s128) (h87 : look t 87 = s87) (h80 : look t 80 = s80) : ∀ args m Q, s89 args m Q → FA Tryz.prog (look t) kp89 Tryz.f89 args m Q := by
 rintro args m Q ⟨g, s, r, c, D, p, n, l, ri, ki, fi, rfl, im, hs, gr, hl, hln, hQ⟩
 show FA Tryz.prog (look t) kp89 Tryz.f89 [.pointer (some ⟨g, 0, none⟩), .int .i64 (rtA c ri).2, .int .i64 p, .agg #[.int .i64 (rtA c ki).1, .int .i64 (rtA c ki).2], .agg #[.int .i64 (rtA c fi).1, .int .i64 (rtA c fi).2]] m Q
 rw [e89]
 have T := hs.tab
 have O := hs.old
 have hw := okC_wf gr.ok
 have hcn := hw.n
 have sm := gr.ok.num.1.sm
 have t0 := T.p0
 have t1 := T.p1
 have hQ : ∀ m', (∀ b, b ∉ g :: D → m' b = m b) → Im m' g s r { c with ws := rnW p n (rtA c ri).2 l (fillF p n (blkOf c.ws (rtA c ri).2).1 (blkOf c.ws (rtA c ri).2).2.toNat 0 c.ws) (rtA c ki) (rtA c fi) } D → Q (.tuple #[]) m' := hQ
 obtain ⟨tb, etb⟩ : ∃ tb, tb = (rtA c ri).2 := ⟨_, rfl⟩
 rw [← etb] at T O t0 t1 hQ hl ⊢
 have w2 : IntKind.i64.wrap (tb + 2) = tb + 2 := w64 (by omega) (by omega)
 refine newA_intro fun g1 m1 hg1 e1 hb1 le1 => newA_intro fun g3 m3 hg3 e3 hb3 le3 => ?_
 have l3 := Mem.le_trans le1 le3
 have im3 := im.le l3
 have d1 : g1 ∉ g :: D := im.fresh hg1
 have d3 : g3 ∉ g :: D := (im.le le1).fresh hg3
 refine via h125 ⟨g, s, r, c, tb + 2, by rw [w2], ⟨im3.p, im3.w.at, hw, by omega, by omega⟩, by omega, _, _, rfl, ?_⟩
 refine newA_intro fun g9 m9 hg9 e9 hb9 le9 => sto (c := #[.int .i64 0, .int .i64 0]) (t := 58) hb9 rfl (by simp) fun m10 e10 q10 ne10 => ?_
 have q10 : m10 g9 = some (.cells #[.int .i64 (valW c.ws (tb + 2)).1, .int .i64 (valW c.ws (tb + 2)).2] 58 (0, 0)) := q10
 have l10 : Mem.le m3 m10 := le_other le9 hg9 ne10
 have L10 := Mem.le_trans l3 l10
 have im10 := im.le L10
 have h1 : m10 g1 = some (.cells #[.int .i64 (rtA c ki).1, .int .i64 (rtA c ki).2] 58 (0, 0)) := l10 _ _ (le3 _ _ hb1)
 have h3 : m10 g3 = some (.cells #[.int .i64 (rtA c fi).1, .int .i64 (rtA c fi).2] 58 (0, 0)) := l10 _ _ hb3
 refine ⟨_, cell_of q10 0, ?_⟩
 rcases T.b with ⟨b1, b2⟩ | ⟨b1, b2, b3, b4, b5, b6, b7, b8, b9, b10, b11, b12⟩
 · rw [if_neg (by rw [b2]; decide)]
   rw [b1] at hQ hl
   have hl : l = 1 + 0 := hl
   have : l = 1 := by omega
   subst this
   show rnT (look t) Q g tb p g1 g3 1 m10
   exact rnT_ok t h87 h80 gr gr.init (by have := gr.n0; omega) hs.key im10 (Off.of_le L10) d1 d3 h1 h3 t0 t1 hQ
 · rw [if_pos (by rw [b1]; rfl)]
   refine ⟨_, cell_of q10 0, _, cell_of q10 1, via h129 ⟨g, s, r, c, valW c.ws (tb + 2), rfl, im10.p, im10.w.at, sm, hw, _, rfl, ?_⟩⟩
   rw [b11]
   have bb := b5.b0
   have bn := b5.bn
   have n1 := b5.n1
   refine via h86 ⟨g, s, r, c, _, rfl, ⟨im10.p, im10.w.at, hw, bb, by omega⟩, _, _, _, rfl, by decide, (blkOf c.ws tb).2.toNat + 1, ?_⟩
   generalize (blkOf c.ws tb).1 = b at *
   generalize (blkOf c.ws tb).2 = no at *
   have n2 := b5.n2
   have e4 : IntKind.i64.wrap (Int.tdiv (lookW c.ws b).2.1 4) = no := by
     show IntKind.i64.wrap (Int.tdiv (szW c.ws b) 4) = _
     rw [Int.tdiv_eq_ediv_of_nonneg (by omega), b6, w64 (by omega) (by omega)]
     omega
   rw [e4]
   have ar0 := aliveF_range c.ws b no.toNat 0
   suffices key : ∀ (d i : Nat), (i : Int) + d = no → ∀ (w : List U64) (cnt x : Int), Fill c p n w cnt → cnt + aliveF c.ws b d i + 1 ≤ n → 1 ≤ x → x + aliveF c.ws b d i = l → fillF p n b d i w = fillF p n b no.toNat 0 c.ws → ∀ M : Mem, Off (g :: D) m M → Im M g s r { c with ws := w } D → M g1 = m10 g1 → M g3 = m10 g3 →
       L89_6 (look t) (d + 1) Q g tb p g1 g3 x b no (i : Int) M from key no.toNat 0 (by omega) c.ws 0 1 gr.init (by simp; omega) (by decide) (by simp; omega) rfl m10 (Off.of_le L10) im10 rfl rfl
   intro d
   induction d with
   | zero =>
     intro i hi w cnt x hF hr hx0 hx hw' M hO imM k1 k3
     rw [l89_6]
     refine ⟨M, Mem.le_refl _, ?_⟩
     rw [if_neg (by simp; omega)]
     have ex : x = l := by rw [← hx]; show x = x + 0; omega
     subst ex
     show rnT (look t) Q g tb p g1 g3 x M
     have ew : w = fillF p n b no.toNat 0 c.ws := hw'
     rw [← ew] at hQ
     exact rnT_ok t h87 h80 gr hF (by have : cnt + 0 + 1 ≤ n := hr; omega) hs.key imM hO d1 d3 (k1.trans h1) (k3.trans h3) t0 t1 hQ
   | succ d ih =>
     intro i hi w cnt x hF hr hx0 hx hw' M hO imM k1 k3
     have ar := aliveF_range c.ws b (d + 1) i
     obtain ⟨cnt', F', e', al⟩ := O.step hF gr (f := d) (i := (i : Int)) (by omega) (by omega) (by omega)
     have ea := O.alive hF gr (i := (i : Int)) (by omega) (by omega)
     have hwl := hF.len
     have hwf := hF.wf gr
     rw [l89_6]
     refine ⟨M, Mem.le_refl _, ?_⟩
     rw [if_pos (by simp; omega)]
     refine via h128 ⟨g, s, r, { c with ws := w }, b, (i : Int), rfl, imM.p, imM.w.at, hwf, bb, by omega, by show b + 3 + 4 * (i : Int) + 1 < (w.length : Int); omega, _, rfl, ?_⟩
     have ei : IntKind.i64.wrap ((i : Int) + 1) = ((i + 1 : Nat) : Int) := wsucc (n := i + 1) (by omega) (by omega)
     have er : aliveF c.ws b (d + 1) i = (if aliveB c.ws b i = true then 1 else 0) + aliveF c.ws b d ((i : Int) + 1) := rfl
     have ef : fillF p n b (d + 1) i w = fillF p n b d ((i : Int) + 1) (if aliveB w b i = true then layW p n w (valW w (b + 1 + 4 * (i : Int))) (valW w (b + 3 + 4 * (i : Int))) else w) := rfl
     have ci : ((i + 1 : Nat) : Int) = (i : Int) + 1 := by omega
     rw [ef] at hw'
     rw [ei]
     show if aliveB w b (i : Int) = true then _ else _
     by_cases ca : aliveB w b i = true
     · rw [if_pos ca] at F' hw' ⊢
       rw [← ea, if_pos ca] at er
       obtain ⟨a1, a2⟩ := al ca
       have w1 : IntKind.i64.wrap (IntKind.i64.wrap (b + 1) + IntKind.i64.wrap (4 * (i : Int))) = b + 1 + 4 * i := by rw [w64 (x := b + 1) (by omega) (by omega), w64 (x := 4 * (i : Int)) (by omega) (by omega), w64 (by omega) (by omega)]
       have w3 : IntKind.i64.wrap (IntKind.i64.wrap (b + 3) + IntKind.i64.wrap (4 * (i : Int))) = b + 3 + 4 * i := by rw [w64 (x := b + 3) (by omega) (by omega), w64 (x := 4 * (i : Int)) (by omega) (by omega), w64 (by omega) (by omega)]
       rw [w1, w3]
       refine via h125 ⟨g, s, r, { c with ws := w }, b + 1 + 4 * (i : Int), rfl, ⟨imM.p, imM.w.at, hwf, by omega, by show _ < (w.length : Int); omega⟩, by show _ < (w.length : Int); omega, _, _, rfl, ?_⟩
       refine via h125 ⟨g, s, r, { c with ws := w }, b + 3 + 4 * (i : Int), rfl, ⟨imM.p, imM.w.at, hwf, by omega, by show _ < (w.length : Int); omega⟩, by show _ < (w.length : Int); omega, _, _, rfl, ?_⟩
       have f := hF.find gr a1 a2
       have hsz : n = szW w p / 4 := by
         have p0 := gr.nw.p0
         have e : gw w p = gw c.ws p := hF.out p (by omega) (.inl (Int.le_refl _))
         rw [sz_c e, gr.nw.sz]
         omega
       have w10 : IntKind.i64.wrap (x + 1) = x + 1 := w64 (by omega) (by omega)
       rw [w10]
       refine via h87 ⟨g, s, r, { c with ws := w }, D, p, n, valW w (b + 1 + 4 * (i : Int)), valW w (b + 3 + 4 * (i : Int)), rfl, imM, ⟨sm.s0, sm.s1, sm.t0, sm.t1, by show (w.length : Int) = _; rw [hwl]; exact sm.l⟩, hwf, hF.blk gr, hsz, hF.keyOk gr a2, f.1, f.2, fun m1' o1 im1 => ⟨rfl, ?_⟩⟩
       exact ih (i + 1) (by omega) _ cnt' (x + 1) F' (by rw [ci]; omega) (by omega) (by rw [ci]; omega) (by rw [ci]; exact hw') m1' (hO.trans (Off.of_eq o1)) im1 ((o1 g1 d1).trans k1) ((o1 g3 d3).trans k3)
     · rw [if_neg ca] at F' hw' ⊢
       rw [← ea, if_neg ca] at er
       exact ih (i + 1) (by omega) _ cnt' x F' (by rw [ci]; omega) hx0 (by rw [ci]; omega) (by rw [ci]; exact hw') M hO imM k1 k3
theorem gk_ok (t : Tab) (h69 : look t 69 = s69) (h89 : look t 89 = s89) {Q : Value → Mem → Prop} {g : Nat} {s r : Sl} {b : Ar} {D : List Nat} {ri ki fi l : Int} {m : Mem} (h : SkOk b ri ki fi) (hl : l = 1 + aliveF b.ws (blkOf b.ws (rtA b ri).2).1 (blkOf b.ws (rtA b ri).2).2.toNat 0)
   (hQ : ∀ m', (∀ b, b ∉ g :: D → m' b = m b) → Im m' g s r (gkR b ri ki fi).1 D → Q (.int .i64 (gkR b ri ki fi).2) m') :
   ∀ (d : Nat) (x : Int), (d = 5 ∧ x = 4 ∨ d = 4 ∧ x = 8 ∨ d = 3 ∧ x = 16 ∨ d = 2 ∧ x = 32 ∨ d = 1 ∧ x = 64 ∨ d = 0 ∧ x = 128) → x ≤ growN l → ∀ M : Mem, Off (g :: D) m M → Im M g s r b D → L51_19 (look t) (d + 1) Q g ri ki fi (l - 1) x M := by
 have ar := aliveF_range b.ws (blkOf b.ws (rtA b ri).2).1 (blkOf b.ws (rtA b ri).2).2.toNat 0
 have o1 := h.old.n1
 have o0 := h.old.n0
 have ga := growN_all l
 have w1 : IntKind.i64.wrap (l - 1 + 1) = l := by rw [w64 (by omega) (by omega)]; omega
 have w4 : IntKind.i64.wrap (4 * l) = 4 * l := w64 (by omega) (by omega)
 have eg : gkR b ri ki fi = if growN l > 64 then (b, 1) else if (askA 3 (4 * growN l) b).2.2 = 0 then (rnA (askA 3 (4 * growN l) b).1 (askA 3 (4 * growN l) b).2.1 (growN l) ri ki fi l, 0) else ((askA 3 (4 * growN l) b).1, (askA 3 (4 * growN l) b).2.2) := by rw [hl]; rfl
 intro d
 have fin : ∀ (n : Nat) (x : Int), x = growN l → ∀ M : Mem, Off (g :: D) m M → Im M g s r b D → L51_19 (look t) (n + 1) Q g ri ki fi (l - 1) x M := by
   rintro n x rfl M hO im
   rw [l51_19]
   refine ⟨M, Mem.le_refl _, ?_⟩
   rw [w1, w4, w64 (x := 3 * growN l) (by omega) (by omega), if_neg (by simp; omega)]
   by_cases c : growN l > 64
   · rw [if_pos (by simpa using c)]
     rw [eg, if_pos c] at hQ
     exact ret_off hO (hQ _ (fun b hb => mix_off hb) im.mix)
   · rw [if_neg (by simpa using c)]
     rw [eg, if_neg c] at hQ
     obtain ⟨g1, g2, g3, g4⟩ := growN_ok l (by omega) (by omega)
     obtain ⟨k1, k2⟩ := h.grow hl (by omega)
     rw [w64 (x := 4 * growN l) (by omega) (by omega)]
     refine via h69 ⟨g, s, r, b, D, 3, 4 * growN l, rfl, im, h.ok, g3, fun m1 o1 im1 => ⟨_, _, rfl, ?_⟩⟩
     generalize askA 3 (4 * growN l) b = q at *
     obtain ⟨c, p, code⟩ := q
     simp only at k1 k2 hQ im1 ⊢
     rcases k2 with ⟨rfl, gr, hl'⟩ | rfl
     · rw [if_pos (by rfl)]
       rw [if_pos rfl] at hQ
       have hAt := im1.w.at
       have hk := hAt.k
       refine ⟨fun q => q g = m1 g ∧ Rd q r.a c.rs, ⟨rfl, hAt.r⟩, _, _, _, fun q hq => cell_of (hq.1.trans im1.p) 9, rgetH hAt.r hk k1.r0 (by have := k1.r1; omega) fun ad had c1 c2 => ⟨_, fun q hq => c2 q hq.2, _, _, _, fun q hq => cell_of (hq.1.trans im1.p) 9, ?_⟩⟩
       refine rgetH hAt.r hk k1.k0 (by have := k1.k1; omega) fun ad had c1 c2 => ⟨_, fun q hq => c1 q hq.2, _, fun q hq => c2 q hq.2, _, _, _, fun q hq => cell_of (hq.1.trans im1.p) 9, ?_⟩
       refine rgetH hAt.r hk k1.f0 (by have := k1.f1; omega) fun ad had c1 c2 => ⟨_, fun q hq => c1 q hq.2, _, fun q hq => c2 q hq.2, ?_⟩
       refine via h89 ⟨g, s, r, c, D, p, growN l, l, ri, ki, fi, rfl, im1, k1, gr, hl', by omega, fun m2 o2 im2 => ⟨rfl, ?_⟩⟩
       exact ret_off ((hO.trans (Off.of_eq o1)).trans (Off.of_eq o2)) (hQ _ (fun b hb => mix_off hb) im2.mix)
     · rw [if_neg (by decide)]
       rw [if_neg (by decide)] at hQ
       exact ret_off (hO.trans (Off.of_eq o1)) (hQ _ (fun b hb => mix_off hb) im1.mix)
 induction d with
 | zero =>
   intro x hx hg M hO im
   exact fin 0 x (by omega) M hO im
 | succ d ih =>
   intro x hx hg M hO im
   by_cases c : x = growN l
   · exact fin (d + 1) x c M hO im
   · rw [l51_19]
     refine ⟨M, Mem.le_refl _, ?_⟩
     rw [w1, w4, w64 (x := 3 * x) (by omega) (by omega), if_pos (by simp; omega), w64 (x := 2 * x) (by omega) (by omega)]
     exact ih (2 * x) (by omega) (by omega) M hO im
def s51 : Spec := fun args m Q => ∃ (g : Nat) (s r : Sl) (a : Ar) (D : List Nat) (ri ki fi : Int), args = [.pointer (some ⟨g, 0, none⟩), .int .i64 ri, .int .i64 ki, .int .i64 fi] ∧ Im m g s r a D ∧ SkOk a ri ki fi ∧
 ∀ m', (∀ b, b ∉ g :: D → m' b = m b) → Im m' g s r (skR a ri ki fi).1 D → Q (.int .i64 (skR a ri ki fi).2) m'
theorem f51 (t : Tab) (h84 : look t 84 = s84) (h85 : look t 85 = s85) (h80 : look t 80 = s80) (h86 : look t 86 = s86) (h87 : look t 87 = s87) (h88 : look t 88 = s88) (h69 : look t 69 = s69) (h89 : look t 89 = s89) : ∀ args m Q, s51 args m Q → FA Tryz.prog (look t) kp51 Tryz.f51 args m Q := by
 intro args m Q hh
 obtain ⟨g, s, r, a, D, ri, ki, fi, ha, im, h, hQ⟩ := hh
 rw [ha, e51]
 have T := h.tab
 obtain ⟨hb, L, ert⟩ := h.load
 have hw := okC_wf h.ok
 have hAt := im.w.at
 have hk := hAt.k
 have t0 := T.p0
 have t1 := T.p1
 have hn := hw.n
 have ev : ldV a ((rtA a ri).2 + 2) = valW (ldA a ((rtA a ri).2 + 2)).ws ((rtA a ri).2 + 2) := by
   unfold ldV
   split
   · rename_i c; exact L.v c
   · rename_i c
     unfold ldA
     rw [if_neg c]
 refine ⟨_, _, _, cell_of im.p 9, rget hAt.r hk h.r0 (by have := h.r1; omega) fun ad had c1 c2 => ⟨_, c2, ?_⟩⟩
 refine via h84 ⟨g, s, r, a, D, (rtA a ri).2, 2, rfl, im, hw, by omega, by omega, hn, h.refIn h.ok, fun m1 o1 im1 => ⟨_, _, rfl, ?_⟩⟩
 rw [ev]
 have hQ : ∀ m', (∀ b, b ∉ g :: D → m' b = m b) → Im m' g s r (skB (ldA a ((rtA a ri).2 + 2)) ri ki fi).1 D → Q (.int .i64 (skB (ldA a ((rtA a ri).2 + 2)) ri ki fi).2) m' := hQ
 have lw := L.w
 obtain ⟨b, eb⟩ : ∃ b, b = ldA a ((rtA a ri).2 + 2) := ⟨_, rfl⟩
 rw [← eb] at hb ert im1 hQ lw ⊢
 have hwb := okC_wf hb.ok
 have Tb := hb.tab
 have Ob := hb.old
 have us := hb.u _ hb.root.2 hb.kd
 have rb := hb.root.2
 have smb := hb.ok.num.1.sm
 have gq : ∀ (M : Mem) (x : Int), x = aliveF b.ws (blkOf b.ws (rtA b ri).2).1 (blkOf b.ws (rtA b ri).2).2.toNat 0 → Off (g :: D) m M → Im M g s r b D → (∀ m', (∀ b, b ∉ g :: D → m' b = m b) → Im m' g s r (gkR b ri ki fi).1 D → Q (.int .i64 (gkR b ri ki fi).2) m') → ∃ k : Nat, L51_19 (look t) k Q g ri ki fi x 4 M := fun M x hx hO imM hQ => by
   have := gk_ok t h69 h89 hb rfl hQ 5 4 (.inl ⟨rfl, rfl⟩) (by have := growN_all (1 + aliveF b.ws (blkOf b.ws (rtA b ri).2).1 (blkOf b.ws (rtA b ri).2).2.toNat 0); omega) M hO imM
   rw [← hx, show 1 + x - 1 = x by omega] at this
   exact ⟨6, this⟩
 have eS : skB b ri ki fi = (if (findA b.ws (blkOf b.ws (rtA b ri).2).1 (blkOf b.ws (rtA b ri).2).2 (rtA b ki)).2 = true then (putV b ((blkOf b.ws (rtA b ri).2).1 + 3 + 4 * (findA b.ws (blkOf b.ws (rtA b ri).2).1 (blkOf b.ws (rtA b ri).2).2 (rtA b ki)).1) (rtA b fi), 0)
   else if (rtA b fi).1 = 0 then (b, 0)
   else if 4 * (gw b.ws ((rtA b ri).2 + 1) + 1) > 3 * (blkOf b.ws (rtA b ri).2).2 then gkR b ri ki fi
   else ({ b with ws := setW (layW (blkOf b.ws (rtA b ri).2).1 (blkOf b.ws (rtA b ri).2).2 b.ws (rtA b ki) (rtA b fi)) ((rtA b ri).2 + 1) (uW (gw b.ws ((rtA b ri).2 + 1) + 1)) }, 0)) := rfl
 have ar := aliveF_range b.ws (blkOf b.ws (rtA b ri).2).1 (blkOf b.ws (rtA b ri).2).2.toNat 0
 have et : (rtA a ri).2 = (rtA b ri).2 := by rw [ert]
 rw [et] at lw t0 t1 ⊢
 have ea : (a.rs.getD ri.toNat (0, 0)).2 = (rtA b ri).2 := et
 obtain ⟨tb, etb⟩ : ∃ tb, tb = (rtA b ri).2 := ⟨_, rfl⟩
 rw [← etb] at ea lw t0 t1 Tb Ob us gq eS ar rb ⊢
 obtain ⟨v, hv⟩ : ∃ v, v = valW b.ws (tb + 2) := ⟨_, rfl⟩
 rw [← hv] at lw ⊢
 refine newA_intro fun g2 m2 hg2 e2 hb2 le2 => sto (c := #[.int .i64 0, .int .i64 0]) (t := 58) hb2 rfl (by simp) fun m3 e3 q3 ne3 => ?_
 have q3 : m3 g2 = some (.cells #[.int .i64 v.1, .int .i64 v.2] 58 (0, 0)) := q3
 have l3 : Mem.le m1 m3 := le_other le2 hg2 ne3
 have im3 := im1.le l3
 have O3 : Off (g :: D) m m3 := (Off.of_eq o1).trans (Off.of_le l3)
 have A3 := im3.w.at
 have k3 := A3.k
 have t1b := Tb.p1
 have n3 := hwb.n
 have fin : ∀ (b' : Ar) (c : Int) (M : Mem), skB b ri ki fi = (b', c) → Off (g :: D) m M → Im M g s r b' D → ret Q (.int .i64 c) M := fun b' c M e hO imM => by
   rw [e] at hQ
   exact ret_off hO (hQ _ (fun b hb => mix_off hb) imM.mix)
 refine ⟨_, cell_of q3 0, ?_⟩
 rcases Tb.b with ⟨b1, b2⟩ | ⟨b1, b2, b3, b4, b5, b6, b7, b8, b9, b10, b11, b12⟩
 · rw [← hv] at b2
   rw [if_neg (by rw [b2]; decide)]
   rw [b1] at eS
   have ef : findA b.ws 0 0 (rtA b ki) = (-1, false) := by unfold findA; split <;> rfl
   refine ⟨_, _, _, cell_of im3.p 9, rget A3.r k3 hb.f0 (by have := hb.f1; omega) fun ad had c1 c2 => ⟨_, c1, ?_⟩⟩
   rw [show (rtA b fi) = b.rs.getD fi.toNat (0, 0) from rfl, ef] at eS
   simp only [Bool.false_eq_true, if_false] at eS
   by_cases c0 : (b.rs.getD fi.toNat (0, 0)).1 = 0
   · rw [if_pos (by simpa using c0)]
     rw [if_pos c0] at eS
     exact fin b 0 m3 eS O3 im3
   · rw [if_neg (by simpa using c0)]
     rw [if_neg c0] at eS
     have u0 : gw b.ws (tb + 1) = 0 := by have := us.1; rw [b1] at this; exact this
     rw [u0, if_pos (by decide)] at eS
     rw [eS] at hQ
     exact gq m3 0 (by rw [b1]; rfl) O3 im3 hQ
 · have lw := lw (by unfold isRefB kindT; rw [hv, b1]; rfl)
   rw [← hv] at b1 b2 b8 b9 b10 b11
   rw [if_pos (by rw [b1]; rfl)]
   have ebk : (blkOf b.ws tb).1 = v.2 := by rw [b8, lw]
   have nap := hb.ok.apart rb b3 (fun e => by have h2 := hb.kd; rw [← etb, e, b4] at h2; cases h2)
   rw [Tb.sz] at nap
   rw [ebk] at b3 b4 b5 b6 b7 b12 eS us gq ar nap
   obtain ⟨n, en⟩ : ∃ n, n = (blkOf b.ws tb).2 := ⟨_, rfl⟩
   rw [← en] at b5 b6 b7 eS us gq ar
   have bb := b5.b0
   have bn := b5.bn
   have n1 := b5.n1
   have n2 := b5.n2
   obtain ⟨us1, us2⟩ := us
   have ur := usedW_range b.ws v.2 n.toNat
   have h0 := hash_nn hwb hb.keyOk
   have hnz : n = szW b.ws v.2 / 4 := by omega
   have hF := find_yes (n := n) (b := v.2) (by omega) h0
   have hR := find_room (n := n) (b := v.2) (ws := b.ws) (by omega) h0 hb.kn
   have glay : 0 ≤ (findA b.ws v.2 n (rtA b ki)).1 → (findA b.ws v.2 n (rtA b ki)).1 < n → gw (layW v.2 n b.ws (rtA b ki) (rtA b fi)) (tb + 1) = gw b.ws (tb + 1) := fun f0 f1 => by
     unfold layW
     generalize (findA b.ws v.2 n (rtA b ki)).1 = e at *
     rw [gw_set (by omega) (by simp only [setW_len]; omega) (by omega), if_neg (by omega), gw_set (by omega) (by simp only [setW_len]; omega) (by omega), if_neg (by omega), gw_set (by omega) (by simp only [setW_len]; omega) (by omega), if_neg (by omega), gw_set (by omega) (by omega) (by omega), if_neg (by omega)]
   refine ⟨Mem.le m3, Mem.le_refl _, _, held (cell_of q3 1), _, _, _, held (cell_of im3.p 9), rgetH A3.r k3 hb.k0 (by have := hb.k1; omega) fun ad had c1 c2 => ⟨_, fun q hq => c1 q (A3.r.le hq), _, fun q hq => c2 q (A3.r.le hq), ?_⟩⟩
   refine via h85 ⟨g, s, r, b, v.2, n, rtA b ki, rfl, im3.p, A3, smb, hwb, b5, hnz, hb.keyOk, _, _, rfl, Mem.le_refl _, ?_⟩
   by_cases ce : (findA b.ws v.2 n (rtA b ki)).2 = true
   · rw [if_pos ce]
     rw [if_pos ce] at eS
     obtain ⟨f2, f0, f1⟩ := hF ce
     generalize (findA b.ws v.2 n (rtA b ki)).1 = e at *
     refine ⟨Mem.le m3, Mem.le_refl _, _, held (cell_of q3 1), _, _, _, held (cell_of im3.p 9), rgetH A3.r k3 hb.f0 (by have := hb.f1; omega) fun ad had c1 c2 => ⟨_, fun q hq => c1 q (A3.r.le hq), _, fun q hq => c2 q (A3.r.le hq), ?_⟩⟩
     have w3 : IntKind.i64.wrap (IntKind.i64.wrap (v.2 + 3) + IntKind.i64.wrap (4 * e)) = v.2 + 3 + 4 * e := by rw [w64 (x := v.2 + 3) (by omega) (by omega), w64 (x := 4 * e) (by omega) (by omega), w64 (by omega) (by omega)]
     rw [w3]
     refine via h80 ⟨g, s, r, b, D, v.2 + 3 + 4 * e, rtA b fi, rfl, im3, by omega, by omega, by omega, fun m4 o4 im4 => ⟨rfl, ?_⟩⟩
     exact fin _ 0 m4 eS (O3.trans (Off.of_eq o4)) im4
   · rw [if_neg ce]
     rw [if_neg ce] at eS
     refine ⟨_, _, _, cell_of im3.p 9, rget A3.r k3 hb.f0 (by have := hb.f1; omega) fun ad had c1 c2 => ⟨_, c1, ?_⟩⟩
     by_cases c0 : (rtA b fi).1 = 0
     · rw [if_pos (by show ((rtA b fi).1 == 0) = true; simpa using c0)]
       rw [if_pos c0] at eS
       exact fin b 0 m3 eS O3 im3
     · rw [if_neg (by show ¬ ((rtA b fi).1 == 0) = true; simpa using c0)]
       rw [if_neg c0] at eS
       have w1 : IntKind.i64.wrap (tb + 1) = tb + 1 := w64 (by omega) (by omega)
       rw [ea, w1]
       refine ⟨Mem.le m3, Mem.le_refl _, _, _, _, held (cell_of im3.p 0), wd A3.w A3.n (by omega) (by have := A3.n; omega) fun ad had hd => ⟨_, hd, _, held (cell_of q3 1), ?_⟩⟩
       refine via h86 ⟨g, s, r, b, v.2, rfl, ⟨im3.p, A3, hwb, bb, by omega⟩, _, _, _, rfl, Mem.le_refl _, by decide, ?_⟩
       have e4 : IntKind.i64.wrap (Int.tdiv (lookW b.ws v.2).2.1 4) = n := by
         show IntKind.i64.wrap (Int.tdiv (szW b.ws v.2) 4) = _
         rw [Int.tdiv_eq_ediv_of_nonneg (by omega), b6, w64 (by omega) (by omega)]
         omega
       obtain ⟨u, eu⟩ : ∃ u, u = gw b.ws (tb + 1) := ⟨_, rfl⟩
       rw [← eu] at us1 us2 eS glay ⊢
       have wu : IntKind.i64.wrap u = u := w64 (by omega) (by omega)
       rw [e4, wu, w64 (x := u + 1) (by omega) (by omega), w64 (x := 4 * (u + 1)) (by omega) (by omega), w64 (x := 3 * n) (by omega) (by omega)]
       by_cases cr : 4 * (u + 1) > 3 * n
       · rw [if_neg (by simp; omega)]
         rw [if_pos cr] at eS
         refine ⟨_, cell_of q3 1, via h88 ⟨g, s, r, b, v.2, n.toNat, rfl, im3.p, A3, hwb, bb, by omega, by omega, by omega, _, rfl, _, _, _, cell_of im3.p 9, rget A3.r k3 hb.f0 (by have := hb.f1; omega) fun ad had c1 c2 => ⟨_, c1, ?_⟩⟩⟩
         rw [if_neg (by show ¬ ((rtA b fi).1 == 0) = true; simpa using c0)]
         rw [eS] at hQ
         exact gq m3 _ rfl O3 im3 hQ
       · rw [if_pos (by simp; omega)]
         rw [if_neg cr] at eS
         obtain ⟨f0, f1⟩ := hR (by rw [← us1]; omega)
         have gl := glay f0 f1
         refine ⟨Mem.le m3, Mem.le_refl _, _, held (cell_of q3 1), _, _, _, held (cell_of im3.p 9), rgetH A3.r k3 hb.k0 (by have := hb.k1; omega) fun ad had c1 c2 => ⟨_, fun q hq => c1 q (A3.r.le hq), _, fun q hq => c2 q (A3.r.le hq), _, _, _, held (cell_of im3.p 9), ?_⟩⟩
         refine rgetH A3.r k3 hb.f0 (by have := hb.f1; omega) fun ad had c1 c2 => ⟨_, fun q hq => c1 q (A3.r.le hq), _, fun q hq => c2 q (A3.r.le hq), ?_⟩
         refine via h87 ⟨g, s, r, b, D, v.2, n, rtA b ki, rtA b fi, rfl, im3, smb, hwb, b5, hnz, hb.keyOk, f0, f1, fun m4 o4 im4 => ⟨rfl, _, _, _, cell_of im4.p 0, ?_⟩⟩
         have A4 := im4.w.at
         have ll : (layW v.2 n b.ws (rtA b ki) (rtA b fi)).length = b.ws.length := lay_len _ _ _ _ _
         have lb : tb + 1 < ((layW v.2 n b.ws (rtA b ki) (rtA b fi)).length : Int) := by omega
         refine wd A4.w A4.n (by omega) (by have := A4.n; show tb + 1 < (s.n : Int); rw [← this]; exact lb) fun ad had hd => ⟨_, hd _ (Mem.le_refl _), ?_⟩
         refine im4.put_w (by omega) lb fun m5 o5 im5 => ?_
         refine fin _ 0 m5 eS ((O3.trans (Off.of_eq o4)).trans (Off.of_eq fun q hq => o5 q fun h => hq (by simp [h]))) ?_
         have im5' : Im m5 g s r { b with ws := setW (layW v.2 n b.ws (rtA b ki) (rtA b fi)) (tb + 1) (uW (gw (layW v.2 n b.ws (rtA b ki) (rtA b fi)) (tb + 1) + 1)) } D := im5
         rw [gl] at im5'
         exact im5'
def kiB (call : FuncId → Spec) (Q : Value → Mem → Prop) (g1 g3 : Nat) (m403 : Mem) : Prop :=
 (∃ (ra405 : Option Addr) (rn406 rc407 : Nat), (csK m403 g1 0 ra405 rn406 rc407 ∧ (∃ y409 : Int, (ciK m403 g1 1 y409 ∧ (∃ y411 : Int, (ciK m403 g1 2 y411 ∧ (∃ y413 : Int, (ciK m403 g1 3 y413 ∧ (∃ b415 : Bool, (cbK m403 g1 4 b415 ∧ (∃ y417 : Int, (ciK m403 g1 5 y417 ∧ (∃ y419 : Int, (ciK m403 g1 6 y419 ∧ (∃ y421 : Int, (ciK m403 g1 7 y421 ∧ (∃ y423 : Int, (ciK m403 g1 8 y423 ∧ (∃ (ra425 : Option Addr) (rn426 rc427 : Nat), (csK m403 g1 9 ra425 rn426 rc427 ∧ (call 31 [(.agg #[(.slice ra405 rn406 rc407), (.int .i64 y409), (.int .i64 y411), (.int .i64 y413), (.bool b415), (.int .i64 y417), (.int .i64 y419), (.int .i64 y421), (.int .i64 y423), (.slice ra425 rn426 rc427)])] m403 fun v429 m430 => (∃ (ra431 : Option Addr) (rn432 rc433 : Nat), (∃ y434 : Int, (∃ y435 : Int, (∃ y436 : Int, (∃ b437 : Bool, (∃ y438 : Int, (∃ y439 : Int, (∃ y440 : Int, (∃ y441 : Int, (∃ (ra442 : Option Addr) (rn443 rc444 : Nat), (v429 = (.agg #[(.slice ra431 rn432 rc433), (.int .i64 y434), (.int .i64 y435), (.int .i64 y436), (.bool b437), (.int .i64 y438), (.int .i64 y439), (.int .i64 y440), (.int .i64 y441), (.slice ra442 rn443 rc444)]) ∧ (stoA m430 ⟨g3, 0, none⟩ [(.slice ra431 rn432 rc433), (.int .i64 y434), (.int .i64 y435), (.int .i64 y436), (.bool b437), (.int .i64 y438), (.int .i64 y439), (.int .i64 y440), (.int .i64 y441), (.slice ra442 rn443 rc444)] fun m445 => (∃ (ra446 : Option Addr) (rn447 rc448 : Nat), (csK m445 g3 0 ra446 rn447 rc448 ∧ (∃ y450 : Int, (ciK m445 g3 1 y450 ∧ (∃ y452 : Int, (ciK m445 g3 2 y452 ∧ (∃ y454 : Int, (ciK m445 g3 3 y454 ∧ (∃ b456 : Bool, (cbK m445 g3 4 b456 ∧ (∃ y458 : Int, (ciK m445 g3 5 y458 ∧ (∃ y460 : Int, (ciK m445 g3 6 y460 ∧ (∃ y462 : Int, (ciK m445 g3 7 y462 ∧ (∃ y464 : Int, (ciK m445 g3 8 y464 ∧ (∃ (ra466 : Option Addr) (rn467 rc468 : Nat), (csK m445 g3 9 ra466 rn467 rc468 ∧ ret Q (.tuple #[(.agg #[(.slice ra446 rn447 rc448), (.int .i64 y450), (.int .i64 y452), (.int .i64 y454), (.bool b456), (.int .i64 y458), (.int .i64 y460), (.int .i64 y462), (.int .i64 y464), (.slice ra466 rn467 rc468)]), (.int .i64 (1 : Int))]) m445)))))))))))))))))))))))))))))))))))))))))))))))))))))
theorem kiB_ok (t : Tab) (h31 : look t 31 = s31) {Q : Value → Mem → Prop} {g1 g3 : Nat} {s r : Sl} {a : Ar} {M m : Mem} (p : Ptr M g1 s r a) (hA : ArAt M s r a) (hw : a.wf) (h3 : M g3 = some (.cells zAr 29 (0, 0))) (z3 : m g3 = none) {D0 : List Nat} (hD0 : ∀ b ∈ D0, m b = none) (hO : Off D0 m M) (hd3 : g3 ∉ D0)
   (hQ : ncK m (a, 1) Q) : kiB (look t) Q g1 g3 M := by
 unfold kiB
 refine ⟨_, _, _, cell_of p 0, _, cell_of p 1, _, cell_of p 2, _, cell_of p 3, _, cell_of p 4, _, cell_of p 5, _, cell_of p 6, _, cell_of p 7, _, cell_of p 8, _, _, _, cell_of p 9, via h31 ⟨s, r, a, rfl, hA, hw, fun s' r' D m3 l3 w3 f3 => ⟨_, _, _, _, _, _, _, _, _, _, _, _, _, _, rfl, ?_⟩⟩⟩
 obtain ⟨wa, wn, wc⟩ := s'
 obtain ⟨ra, rn, rc⟩ := r'
 have d3 : g3 ∉ D := fun h => by have := f3 g3 h; rw [h3] at this; cases this
 refine sto_ar (l3 _ _ h3) fun m4 e4 q4 ne4 => ?_
 have p4 : Ptr m4 g3 ⟨wa, wn, wc⟩ ⟨ra, rn, rc⟩ a := q4
 refine ⟨_, _, _, cell_of p4 0, _, cell_of p4 1, _, cell_of p4 2, _, cell_of p4 3, _, cell_of p4 4, _, cell_of p4 5, _, cell_of p4 6, _, cell_of p4 7, _, cell_of p4 8, _, _, _, cell_of p4 9, ?_⟩
 have hD : ∀ b ∈ D, m b = none := fun b hb => by
   cases e : m b with
   | none => rfl
   | some o =>
     by_cases h0 : b ∈ D0
     · rw [hD0 b h0] at e; cases e
     · have := hO b o h0 e; rw [f3 b hb] at this; cases this
 have O4 : Off (D0 ++ D) m m4 := fun x o hx e => by
   have hx0 : x ∉ D0 := fun h => hx (by simp [h])
   have x3 : x ≠ g3 := fun h => by rw [h, z3] at e; cases e
   rw [ne4 x x3]
   exact l3 _ _ (hO x o hx0 e)
 have O4' : Off D m (mixM D m m4) := Off.of_eq fun b hb => mix_off hb
 refine ⟨mixM D m m4, ?_, hQ ⟨wa, wn, wc⟩ ⟨ra, rn, rc⟩ D (mixM D m m4) (le_new (fun b hb => mix_off hb) hD) ((w3.ext fun q hq => ne4 q fun e => d3 (e ▸ hq)).ext fun b hb => mix_in hb) hD⟩
 intro b o e
 by_cases hb : b ∈ D
 · rwa [mix_in hb] at e
 · rw [mix_off hb] at e
   have hb0 : b ∉ D0 := fun h => by rw [hD0 b h] at e; cases e
   exact O4 b o (by simp [hb, hb0]) e
def s22 : Spec := fun args m Q => ∃ (s r : Sl) (a : Ar) (ri ki fi : Int), args = [vA s r a, .int .i64 ri, .int .i64 ki, .int .i64 fi] ∧ ArAt m s r a ∧ a.wf ∧ ncK m (skA a ri ki fi) Q
theorem f22 (t : Tab) (h31 : look t 31 = s31) (h32 : look t 32 = s32) (h33 : look t 33 = s33) (h51 : look t 51 = s51) : ∀ args m Q, s22 args m Q → FA Tryz.prog (look t) kp22 Tryz.f22 args m Q := by
 intro args m Q hh
 obtain ⟨s, r, a, ri, ki, fi, ha, hA, hw, hQ⟩ := hh
 have ha : args = [aG s r a, .int .i64 ri, .int .i64 ki, .int .i64 fi] := ha
 rw [ha, e22]
 refine newA_intro fun g1 m1 hg1 e1 hb1 hle1 => newA_intro fun g3 m2 hg3 e2 hb3 hle2 => ?_
 have l2 := Mem.le_trans hle1 hle2
 have p1 : Ptr m2 g1 s r a := hle2 _ _ hb1
 have n13 : g1 ≠ g3 := ne_of_none hg3 hb1
 have z3 := le_none hle1 hg3
 refine ⟨_, _, _, cell_of p1 0, _, cell_of p1 1, _, cell_of p1 2, _, cell_of p1 3, _, cell_of p1 4, _, cell_of p1 5, _, cell_of p1 6, _, cell_of p1 7, _, cell_of p1 8, _, _, _, cell_of p1 9, via h31 ⟨s, r, a, rfl, hA.le l2, hw, fun s' r' D m3 l3 w3 f3 => ⟨_, _, _, _, _, _, _, _, _, _, _, _, _, _, rfl, ?_⟩⟩⟩
 have hD : ∀ b ∈ D, m b = none := fun b hb => le_none l2 (f3 b hb)
 have d3 : g3 ∉ D := fun h => by have := f3 g3 h; rw [hb3] at this; cases this
 have d1 : g1 ∉ D := fun h => by have := f3 g1 h; rw [p1] at this; cases this
 refine newA_intro fun g5 m4 hg5 e4 hb5 hle4 => ?_
 obtain ⟨wa, wn, wc⟩ := s'
 obtain ⟨ra, rn, rc⟩ := r'
 refine sto_ar hb5 fun m5 e5 q5 ne5 => ?_
 have p5 : Ptr m5 g5 ⟨wa, wn, wc⟩ ⟨ra, rn, rc⟩ a := q5
 have l5 : Mem.le m3 m5 := le_other hle4 hg5 ne5
 have im5 : Im m5 g5 ⟨wa, wn, wc⟩ ⟨ra, rn, rc⟩ a D := ⟨p5, w3.le l5, w3.fresh hg5⟩
 have L5 := Mem.le_trans (Mem.le_trans l2 l3) l5
 have p15 : Ptr m5 g1 s r a := l5 _ _ (l3 _ _ p1)
 have h35 := l5 _ _ (l3 _ _ hb3)
 have n35 : g3 ≠ g5 := fun e => by rw [← e] at hg5; have := l3 _ _ hb3; rw [hg5] at this; cases this
 have n15 : g1 ≠ g5 := fun e => by rw [← e] at hg5; have := l3 _ _ p1; rw [hg5] at this; cases this
 have z5 : m g5 = none := le_none (Mem.le_trans l2 l3) hg5
 refine ⟨_, _, _, cell_of p15 0, _, cell_of p15 1, _, cell_of p15 2, _, cell_of p15 3, _, cell_of p15 4, _, cell_of p15 5, _, cell_of p15 6, _, cell_of p15 7, _, cell_of p15 8, _, _, _, cell_of p15 9, via h32 ⟨s, r, a, rfl, hA.le L5, hw, _, rfl, ?_⟩⟩
 by_cases hk : okP a
 · rw [pB_yes hk, if_neg (by decide)]
   refine newA_intro fun g6 m6 hg6 e6 hb6 hle6 => via h33 ⟨g1, s, r, ⟨some ⟨g6, 0, none⟩, 3, 3⟩, a, [ri, ki, fi], rfl, hle6 _ _ p15, (hA.le L5).le hle6, hw, rfl, Rd.of_block (spare := []) hb6 rfl, by show 3 ≤ 2 ^ 20; decide, _, rfl, ?_⟩
   have im6 := im5.le hle6
   have h36 := hle6 _ _ h35
   have L6 := Mem.le_trans L5 hle6
   have p16 := hle6 _ _ p15
   have A6 := hA.le L6
   have k6 := A6.k
   have bad : skA a ri ki fi = (a, 1) → stT Q g5 g3 1 m6 := fun eA => by
     rw [eA] at hQ
     exact ret_nc im6 h36 z3 d3 (Off.of_le L6) hD hQ
   by_cases hfi : (0 ≤ ri ∧ ri < a.rs.length) ∧ (0 ≤ ki ∧ ki < a.rs.length) ∧ 0 ≤ fi ∧ fi < a.rs.length
   · rw [decide_eq_true (show ∀ x ∈ [ri, ki, fi], 0 ≤ x ∧ x < (a.rs.length : Int) from fun x hx => by simp at hx; rcases hx with rfl | rfl | rfl; exact hfi.1; exact hfi.2.1; exact hfi.2.2), if_neg (by decide)]
     obtain ⟨hr, hki, hf⟩ := hfi
     refine ⟨_, _, _, cell_of p16 9, rget A6.r k6 hr.1 (by omega) fun ad had c1 c2 => ⟨_, c1, ?_⟩⟩
     by_cases h4 : (rtA a ri).1 = 4
     · rw [if_neg (by show ¬ ((rtA a ri).1 != 4) = true; simp [h4])]
       refine ⟨_, _, _, cell_of p16 9, rget A6.r k6 hki.1 (by omega) fun ad had c1 c2 => ⟨_, c1, ?_⟩⟩
       by_cases hk0 : (rtA a ki).1 = 0
       · rw [if_pos (by show ((rtA a ki).1 == 0) = true; simp [hk0])]
         exact bad (if_neg fun h => h.2.2.2.2.1 hk0)
       rw [if_neg (by show ¬ ((rtA a ki).1 == 0) = true; simp [hk0])]
       refine ⟨_, _, _, cell_of p16 9, rget A6.r k6 hki.1 (by omega) fun ad had c1 c2 => ⟨_, c1, ?_⟩⟩
       by_cases hk9 : (rtA a ki).1 = 9
       · rw [if_pos (by show ((rtA a ki).1 == 9) = true; simp [hk9])]
         exact bad (if_neg fun h => h.2.2.2.2.2.1 hk9)
       rw [if_neg (by show ¬ ((rtA a ki).1 == 9) = true; simp [hk9])]
       refine ⟨_, _, _, cell_of p16 9, rget A6.r k6 hf.1 (by omega) fun ad had c1 c2 => ⟨_, c1, ?_⟩⟩
       by_cases hf9 : (rtA a fi).1 = 9
       · rw [if_pos (by show ((rtA a fi).1 == 9) = true; simp [hf9])]
         exact bad (if_neg fun h => h.2.2.2.2.2.2 hf9)
       rw [if_neg (by show ¬ ((rtA a fi).1 == 9) = true; simp [hf9])]
       have hP : skP a ri ki fi := ⟨hk, ⟨hr, h4⟩, hki, hf, hk0, hk9, hf9⟩
       have eA : skA a ri ki fi = if (skR a ri ki fi).2 = 1 then (a, 1) else skR a ri ki fi := if_pos hP
       rw [eA] at hQ
       refine via h51 ⟨g5, _, _, a, D, ri, ki, fi, rfl, im6, skOk_of hw hP, fun m7 o7 im7 => ⟨_, rfl, ?_⟩⟩
       have h37 : m7 g3 = some (.cells zAr 29 (0, 0)) := (o7 g3 (by simp [n35, d3])).trans h36
       have O7 : Off D m m7 := fun x o hx e => by
         rw [o7 x fun h => by rcases List.mem_cons.1 h with h | h; rw [h, z5] at e; cases e; exact hx h]
         exact L6 _ _ e
       by_cases c1 : (skR a ri ki fi).2 = 1
       · rw [if_pos (by simpa using c1)]
         rw [if_pos c1] at hQ
         have p17 : Ptr m7 g1 s r a := (o7 g1 (by simp [n15, d1])).trans p16
         have A7 : ArAt m7 s r a := hA.le fun b o e => O7 b o (fun h => by rw [hD b h] at e; cases e) e
         exact (kiB_ok t h31 p17 A7 hw h37 z3 hD O7 d3 hQ : kiB (look t) Q g1 g3 m7)
       · rw [if_neg (by simpa using c1)]
         rw [if_neg c1] at hQ
         exact (ret_nc im7 h37 z3 d3 O7 hD hQ : stT Q g5 g3 (skR a ri ki fi).2 m7)
     · rw [if_pos (by show ((rtA a ri).1 != 4) = true; simp [h4])]
       exact bad (if_neg fun h => h4 h.2.1.2)
   · rw [decide_eq_false (show ¬ ∀ x ∈ [ri, ki, fi], 0 ≤ x ∧ x < (a.rs.length : Int) from fun h => hfi ⟨h ri (by simp), h ki (by simp), h fi (by simp)⟩), if_pos (by decide)]
     exact bad (if_neg fun h => hfi ⟨h.2.1.1, h.2.2.1, h.2.2.2.1⟩)
 · rw [pB_no hk, if_pos (by decide)]
   have eA : skA a ri ki fi = (a, 1) := if_neg fun h => hk h.1
   rw [eA] at hQ
   exact (ret_nc im5 h35 z3 d3 (Off.of_le L5) hD hQ : stT Q g5 g3 1 m5)
def s123 : Spec := fun args m Q => ∃ (s r : Sl) (a : Ar) (b i : Int), args = [vA s r a, .int .i64 b, .int .i64 i] ∧ ArAt m s r a ∧ a.wf ∧ 0 ≤ b ∧ 0 ≤ i ∧ b + 3 + 4 * i + 1 < a.ws.length ∧ Q (vVl (readV a.ws (b + 3 + 4 * i)).1) m
theorem f123 (t : Tab) (h94 : look t 94 = s94) : ∀ args m Q, s123 args m Q → FA Tryz.prog (look t) kp123 Tryz.f123 args m Q := by
 intro args m Q hh
 obtain ⟨s, r, a, b, i, ha, hA, hw, b0, i0, hb, hQ⟩ := hh
 have hn := hw.n
 have ha : args = [aG s r a, .int .i64 b, .int .i64 i] := ha
 rw [ha, e123]
 refine newA_intro fun g1 m2 hg1 e2 hb1 hle2 => newA_intro fun g3 m4 hg3 e4 hb3 hle4 => ?_
 have h1 := hle4 _ _ hb1
 have l4 := Mem.le_trans hle2 hle4
 have w3 : IntKind.i64.wrap (IntKind.i64.wrap (b + 3) + IntKind.i64.wrap (4 * i)) = b + 3 + 4 * i := by rw [w64 (x := b + 3) (by omega) (by omega), w64 (x := 4 * i) (by omega) (by omega), w64 (by omega) (by omega)]
 refine ⟨_, _, _, cell_of h1 0, via h94 ⟨s, a.ws, b + 3 + 4 * i, by rw [w3]; rfl, hA.n, (hA.le l4).w, hw.w, hn, by omega, by omega, _, _, _, rfl, ?_⟩⟩
 refine newA_intro fun g5 m5 hg5 e5 hb5 hle5 => sto (c := #[.int .i64 0, .int .i64 0]) (t := 58) hb5 rfl (by simp) fun m6 e6 h6 hne6 => ?_
 have h6 : m6 g5 = some (.cells #[.int .i64 (readV a.ws (b + 3 + 4 * i)).1.1, .int .i64 (readV a.ws (b + 3 + 4 * i)).1.2] 58 (0, 0)) := h6
 have n35 : g3 ≠ g5 := ne_of_none hg5 hb3
 have l6 : Mem.le m4 m6 := le_other hle5 hg5 hne6
 refine ⟨_, cell_of h6 0, _, cell_of h6 1, sto (c := #[.int .i64 0, .int .i64 0]) (t := 58) (l6 _ _ hb3) rfl (by simp) fun m7 e7 h7 hne7 => ?_⟩
 have h7 : m7 g3 = some (.cells #[.int .i64 (readV a.ws (b + 3 + 4 * i)).1.1, .int .i64 (readV a.ws (b + 3 + 4 * i)).1.2] 58 (0, 0)) := h7
 exact ⟨_, cell_of h7 0, _, cell_of h7 1, ret_intro (le_other (Mem.le_trans l4 l6) (le_none hle2 hg3) hne7) hQ⟩
def s120 : Spec := fun args m Q => ∃ (s r : Sl) (a : Ar) (p : Int), args = [vA s r a, .int .i64 p] ∧ ArAt m s r a ∧ a.wf ∧ TabB a p ∧ Q (.tuple #[.int .i64 (blkOf a.ws p).1, .int .i64 (blkOf a.ws p).2]) m
theorem f120 (t : Tab) (h94 : look t 94 = s94) (h97 : look t 97 = s97) (h56 : look t 56 = s56) : ∀ args m Q, s120 args m Q → FA Tryz.prog (look t) kp120 Tryz.f120 args m Q := by
 intro args m Q hh
 obtain ⟨s, r, a, p, ha, hA, hw, T, hQ⟩ := hh
 have hn := hw.n
 have p0 := T.p0
 have p1 := T.p1
 have ha : args = [aG s r a, .int .i64 p] := ha
 rw [ha, e120]
 have w2 : IntKind.i64.wrap (p + 2) = p + 2 := w64 (by omega) (by omega)
 have er : readV a.ws (p + 2) = (valW a.ws (p + 2), true) := by unfold readV; rw [T.v]; rfl
 refine newA_intro fun g1 m1 hg1 e1 hb1 le1 => ⟨_, _, _, cell_of hb1 0, via h94 ⟨s, a.ws, p + 2, by rw [w2]; rfl, hA.n, (hA.le le1).w, hw.w, hn, by omega, by omega, _, _, _, rfl, ?_⟩⟩
 rw [er]
 refine newA_intro fun g2 m2 hg2 e2 hb2 le2 => sto (c := #[.int .i64 0, .int .i64 0]) (t := 58) hb2 rfl (by simp) fun m3 e3 q3 ne3 => ?_
 have q3 : m3 g2 = some (.cells #[.int .i64 (valW a.ws (p + 2)).1, .int .i64 (valW a.ws (p + 2)).2] 58 (0, 0)) := q3
 have l3 : Mem.le m1 m3 := le_other le2 hg2 ne3
 have h1 := l3 _ _ hb1
 have A3 := hA.le (Mem.le_trans le1 l3)
 refine ⟨_, cell_of q3 0, ?_⟩
 rcases T.b with ⟨b1, b2⟩ | ⟨b1, b2, b3, b4, b5, b6, b7, b8, b9, b10, b11, b12⟩
 · rw [if_pos (by show ((valW a.ws (p + 2)).1 == 0) = true; rw [b2]; rfl)]
   rw [b1] at hQ
   exact ret_intro (Mem.le_trans le1 l3) hQ
 · rw [if_neg (by show ¬ ((valW a.ws (p + 2)).1 == 0) = true; rw [b1]; decide)]
   have bb := b5.b0
   have bn := b5.bn
   have n1 := b5.n1
   have n2 := b5.n2
   refine ⟨_, _, _, cell_of h1 0, _, cell_of h1 1, _, cell_of h1 2, _, cell_of h1 3, _, cell_of h1 4, _, cell_of h1 5, _, cell_of h1 6, _, cell_of h1 7, _, cell_of h1 8, _, _, _, cell_of h1 9, _, cell_of q3 1, via h97 ⟨s, r, a, (valW a.ws (p + 2)).2, rfl, ⟨A3, hw, by omega, b10⟩, _, rfl, ?_⟩⟩
   rw [← b8]
   refine ⟨_, _, _, cell_of h1 0, _, cell_of h1 1, _, cell_of h1 2, _, cell_of h1 3, _, cell_of h1 4, _, cell_of h1 5, _, cell_of h1 6, _, cell_of h1 7, _, cell_of h1 8, _, _, _, cell_of h1 9, via h56 ⟨s, r, a, (blkOf a.ws p).1, rfl, ⟨A3, hw, bb, by omega⟩, _, _, _, rfl, by decide, ?_⟩⟩
   have e4 : IntKind.i64.wrap (Int.tdiv (lookW a.ws (blkOf a.ws p).1).2.1 4) = (blkOf a.ws p).2 := by
     show IntKind.i64.wrap (Int.tdiv (szW a.ws (blkOf a.ws p).1) 4) = _
     rw [Int.tdiv_eq_ediv_of_nonneg (by omega), b6, w64 (by omega) (by omega)]
     omega
   rw [e4]
   exact ret_intro (Mem.le_trans le1 l3) hQ
def s119 : Spec := fun args m Q => ∃ (s r : Sl) (a : Ar) (D : List Nat) (i : Int), args = [vA s r a, .int .i64 i] ∧ Wo m s r a D ∧ a.wf ∧ 0 ≤ i ∧ i + 1 < a.ws.length ∧ valOkB (valW a.ws i) = true ∧ (a.cyc = true → RefIn a (valW a.ws i)) ∧
 ∀ m', (∀ b, b ∉ D → m' b = m b) → Wo m' s r (ldA a i) D → Q (.tuple #[vA s r (ldA a i), vVl (ldV a i)]) m'
theorem f119 (t : Tab) (h94 : look t 94 = s94) (h116 : look t 116 = s116) (h46 : look t 46 = s46) : ∀ args m Q, s119 args m Q → FA Tryz.prog (look t) kp119 Tryz.f119 args m Q := by
 intro args m Q hh
 obtain ⟨s, r, a, D, i, ha, hW, hw, i0, i1, hv, hR, hQ⟩ := hh
 have hn := hw.n
 have ha : args = [aG s r a, .int .i64 i] := ha
 rw [ha, e119]
 have er : readV a.ws i = (valW a.ws i, true) := by unfold readV; rw [hv]; rfl
 obtain ⟨wa, wn, wc⟩ := s
 obtain ⟨ra, rn, rc⟩ := r
 refine newA_intro fun g1 m1 hg1 e1 hb1 hle1 => newA_intro fun g3 m2 hg3 e2 hb3 hle2 => newA_intro fun g5 m3 hg5 e3 hb5 hle3 => ?_
 have l2 := Mem.le_trans hle1 hle2
 have l3 := Mem.le_trans l2 hle3
 have p1 : m3 g1 = some (.cells (cA ⟨wa, wn, wc⟩ ⟨ra, rn, rc⟩ a) 29 (0, 0)) := hle3 _ _ (hle2 _ _ hb1)
 have im := hW.loc hg1 p1 l3
 have h3 := hle3 _ _ hb3
 have n13 : g1 ≠ g3 := ne_of_none hg3 hb1
 have n15 : g1 ≠ g5 := ne_of_none hg5 (hle2 _ _ hb1)
 have n35 : g3 ≠ g5 := ne_of_none hg5 hb3
 have z3 := le_none hle1 hg3
 have z5 := le_none l2 hg5
 have d3 := hW.fresh z3
 have d5 := hW.fresh z5
 have A3 := im.w.at
 refine ⟨_, _, _, cell_of p1 0, via h94 ⟨⟨wa, wn, wc⟩, a.ws, i, rfl, A3.n, A3.w, hw.w, hn, i0, i1, _, _, _, rfl, ?_⟩⟩
 rw [er]
 refine newA_intro fun g7 m4 hg7 e4 hb7 hle4 => sto (c := #[.int .i64 0, .int .i64 0]) (t := 58) hb7 rfl (by simp) fun m5 e5 q5 ne5 => ?_
 have q5 : m5 g7 = some (.cells #[.int .i64 (valW a.ws i).1, .int .i64 (valW a.ws i).2] 58 (0, 0)) := q5
 have l5 : Mem.le m3 m5 := le_other hle4 hg7 ne5
 have im5 := im.le l5
 have h35 := l5 _ _ h3
 have h55 := l5 _ _ hb5
 have L5 := Mem.le_trans l3 l5
 have z7 := le_none l3 hg7
 have n17 : g1 ≠ g7 := ne_of_none hg7 p1
 have n37 : g3 ≠ g7 := ne_of_none hg7 h3
 have n57 : g5 ≠ g7 := ne_of_none hg7 hb5
 have d7 := hW.fresh z7
 refine ⟨_, cell_of im5.p 4, ?_⟩
 unfold ldA ldV at hQ
 cases hc : a.cyc with
 | false =>
   rw [if_neg (by decide)]
   rw [hc] at hQ
   simp only [Bool.false_eq_true, if_false] at hQ
   exact (fwdT_ok im5 q5 h35 h55 n13 (Ne.symm n37) n35 z3 z5 d3 d5 (Off.of_le L5) hQ : fwdT Q g1 g7 g3 g5 m5)
 | true =>
   rw [if_pos rfl]
   rw [hc] at hQ
   simp only [if_true] at hQ
   have R := hR hc
   refine ⟨_, _, _, cell_of im5.p 0, _, cell_of im5.p 1, _, cell_of im5.p 2, _, cell_of im5.p 3, _, cell_of im5.p 4, _, cell_of im5.p 5, _, cell_of im5.p 6, _, cell_of im5.p 7, _, cell_of im5.p 8, _, _, _, cell_of im5.p 9, _, cell_of q5 0, _, cell_of q5 1, via h116 ⟨⟨wa, wn, wc⟩, ⟨ra, rn, rc⟩, a, D, valW a.ws i, rfl, im5.w, R, fun m6 o6 w6 => ⟨_, _, _, _, _, _, _, _, _, _, _, _, _, _, _, _, rfl, ?_⟩⟩⟩
   obtain ⟨T1, T2, hC, v1, v2⟩ := R
   obtain ⟨Ta, F⟩ := fwd_ok hC v1 v2
   have el := F.f.len
   generalize fwdA a (valW a.ws i) = fr at *
   obtain ⟨b, w⟩ := fr
   simp only at F el w6 hQ ⊢
   refine newA_intro fun g8 m7 hg8 e7 hb8 hle7 => newA_intro fun g9 m8 hg9 e8 hb9 hle8 => ?_
   refine sto_ar (hle8 _ _ hb8) fun m9 e9 q9 ne9 => ?_
   have n89 : g8 ≠ g9 := ne_of_none hg9 hb8
   refine sto (c := #[.int .i64 0, .int .i64 0]) (t := 58) ((ne9 g9 (Ne.symm n89)).trans hb9) rfl (by simp) fun m10 e10 q10 ne10 => ?_
   have q10 : m10 g9 = some (.cells #[.int .i64 w.1, .int .i64 w.2] 58 (0, 0)) := q10
   have p10 : Ptr m10 g8 ⟨wa, wn, wc⟩ ⟨ra, rn, rc⟩ b := (ne10 g8 n89).trans q9
   have l10 : Mem.le m6 m10 := le_other (le_other (Mem.le_trans hle7 hle8) hg8 ne9) (le_none hle7 hg9) ne10
   have w10 := w6.le l10
   have g8D : g8 ∉ D := w6.fresh hg8
   have g9D : g9 ∉ D := (w6.le hle7).fresh hg9
   have k6 : ∀ {g : Nat} {o : Obj}, g ∉ D → m5 g = some o → m10 g = some o := fun hd e => l10 _ _ ((o6 _ hd).trans e)
   refine ⟨_, _, _, cell_of p10 0, _, cell_of p10 1, _, cell_of p10 2, _, cell_of p10 3, _, cell_of p10 4, _, cell_of p10 5, _, cell_of p10 6, _, cell_of p10 7, _, cell_of p10 8, _, _, _, cell_of p10 9, _, cell_of q10 0, _, cell_of q10 1, via h46 ⟨⟨wa, wn, wc⟩, ⟨ra, rn, rc⟩, b, D, i, w, rfl, w10, i0, by omega, by omega, fun m11 o11 w11 => ⟨_, _, _, _, _, _, _, _, _, _, _, _, _, _, rfl, ?_⟩⟩⟩
   have k11 : ∀ {g : Nat} {o : Obj}, g ∉ D → m5 g = some o → m11 g = some o := fun hd e => (o11 _ hd).trans (k6 hd e)
   refine put_all (k11 im.g im5.p) w11 im.g fun m12 o12 im12 => ?_
   have q12 : m12 g9 = some (.cells #[.int .i64 w.1, .int .i64 w.2] 58 (0, 0)) := by
     have n19 : g9 ≠ g1 := fun e => by have := k6 im.g im5.p; rw [← e, q10] at this; cases this
     rw [o12 g9 n19, o11 g9 g9D]; exact q10
   have h712 : m12 g7 = some (.cells #[.int .i64 (valW a.ws i).1, .int .i64 (valW a.ws i).2] 58 (0, 0)) := by rw [o12 g7 (Ne.symm n17)]; exact k11 d7 q5
   refine ⟨_, cell_of q12 0, _, cell_of q12 1, sto (c := #[.int .i64 (valW a.ws i).1, .int .i64 (valW a.ws i).2]) (t := 58) h712 rfl (by simp) fun m13 e13 q13 ne13 => ?_⟩
   have q13 : m13 g7 = some (.cells #[.int .i64 w.1, .int .i64 w.2] 58 (0, 0)) := q13
   have im13 : Im m13 g1 ⟨wa, wn, wc⟩ ⟨ra, rn, rc⟩ (putV b i w) D := im12.ext fun q hq => ne13 q fun e => by
     rcases List.mem_cons.1 hq with h | h
     · exact n17 (h.symm.trans e)
     · exact d7 (e ▸ h)
   have O13 : Off D m m13 := by
     refine Off.fresh (Off.fresh ((((Off.of_le L5).trans (Off.of_eq o6)).trans (Off.of_le l10)).trans (Off.of_eq o11)) hg1 o12) z7 ne13
   exact (fwdT_ok im13 q13 (by rw [ne13 g3 n37, o12 g3 (Ne.symm n13)]; exact k11 d3 h35) (by rw [ne13 g5 n57, o12 g5 (Ne.symm n15)]; exact k11 d5 h55) n13 (Ne.symm n37) n35 z3 z5 d3 d5 O13 hQ : fwdT Q g1 g7 g3 g5 m13)
end Go.Proofs.YtpdcjocjkbgddaaGreat.Abs
