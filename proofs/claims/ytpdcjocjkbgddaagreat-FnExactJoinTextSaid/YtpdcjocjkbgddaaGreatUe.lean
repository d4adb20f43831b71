/- Asking for an object, by the program. -/
import Derived.Test.YtpdcjocjkbgddaaGreatUa
namespace Go.Proofs.YtpdcjocjkbgddaaGreat.Abs
open Go.RowKit
set_option linter.unusedVariables false
set_option linter.unusedSimpArgs false
set_option maxRecDepth 20000
def askT2 (call : FuncId → Spec) (Q : Value → Mem → Prop) (a0g : Nat) (a1 a2 : Int) (m9 : Mem) : Prop :=
  shN_16 call Q a0g m9 a2 a1
def askT1 (call : FuncId → Spec) (Q : Value → Mem → Prop) (a0g : Nat) (a1 a2 : Int) (m6 : Mem) : Prop :=
  shN_17 call Q a0g m6 a2 a1
def askT4 (call : FuncId → Spec) (Q : Value → Mem → Prop) (a0g g85 : Nat) (a2 : Int) (m89 : Mem) : Prop :=
  shN_15 call Q m89 a0g g85 a2
theorem hd_b {k s z : Int} (h : hdOk k s z = true) : 1 ≤ k ∧ k ≤ 6 ∧ 1 ≤ s ∧ s ≤ 256 ∧ 0 ≤ z ∧ z ≤ 1000000000 := by
  unfold hdOk at h
  rw [Bool.and_eq_true] at h
  obtain ⟨h1, h2⟩ := h
  have hk := kinds h1
  have : 1 ≤ s ∧ s ≤ 256 := by
    unfold sizeB at h1
    repeat' split at h1
    all_goals first | (cases h1; done) | (simp only [decide_eq_true_eq] at h1; omega)
  have hz : 0 ≤ z ∧ z ≤ 1000000000 := by
    split at h2
    · simp only [decide_eq_true_eq] at h2; omega
    · simp only [decide_eq_true_eq] at h2; omega
  omega
theorem packH_v {k s z : Int} (h : hdOk k s z = true) : packH k s z = k + s * 16 + z * 1048576 := by
  have b := hd_b h
  unfold packH
  rw [u64w (x := s) (by omega) (by omega), u64w (x := k) (by omega) (by omega), u64w (x := z) (by omega) (by omega), u64w (x := s * 16) (by omega) (by omega), u64w (x := z * 1048576) (by omega) (by omega), u64w (x := k + s * 16) (by omega) (by omega), u64w (by omega) (by omega)]
def s115 : Spec := fun args m Q => ∃ k s z : Int, args = [.agg #[.int .i64 k, .int .i64 s, .int .i64 z]] ∧ hdOk k s z = true ∧ Q (.tuple #[.int .u64 (packH k s z), .bool true]) m
theorem f115 (t : Tab) (h130 : look t 130 = s130) : ∀ args m Q, s115 args m Q → FA Tryz.prog (look t) kp115 Tryz.f115 args m Q := by
  rintro args m Q ⟨k, s, z, rfl, hk, hQ⟩
  have b := hd_b hk
  rw [e115]
  refine newA_intro fun g1 m2 hg1 e2 hb1 hle2 => ⟨_, cell_of hb1 0, _, cell_of hb1 1, _, cell_of hb1 2, via h130 ⟨k, s, z, rfl, by omega, _, rfl, ?_⟩⟩
  rw [hk, if_neg (by simp)]
  refine ⟨_, cell_of hb1 0, _, cell_of hb1 1, _, cell_of hb1 2, by decide, ?_⟩
  have e20 : (2 : Int) ^ min ((20 : Int).toNat) (IntKind.bits .i64) = 1048576 := by decide
  have e : IntKind.u64.wrap (IntKind.i64.wrap (IntKind.i64.wrap (k + IntKind.i64.wrap (16 * s)) + IntKind.i64.wrap (z * 2 ^ min ((20 : Int).toNat) (IntKind.bits .i64)))) = packH k s z := by
    rw [packH_v hk, e20, w64 (x := 16 * s) (by omega) (by omega), w64 (x := k + 16 * s) (by omega) (by omega), w64 (x := z * 1048576) (by omega) (by omega), w64 (by omega) (by omega), u64w (by omega) (by omega)]
    omega
  refine ret_intro hle2 ?_
  rw [← e] at hQ
  exact hQ
theorem clrA_w {m : Mem} {base : Addr} {n c : Nat} {K : Value → Mem → Prop} (h : stoA m base (flat Enc.e (List.replicate (n + 1) (⟨0⟩ : U64))) fun m' => K (.tuple #[]) m') : clrA Tryz.prog #[22] (.slice (some base) (n + 1) c) K m := by
  have e : clrA Tryz.prog #[22] (.slice (some base) (n + 1) c) K m = stoA m base (Builtin.zeroCells #[.int .u64 0] (n + 1)).toList fun m' => K (.tuple #[]) m' := by kernel_rfl
  have z : (Builtin.zeroCells #[.int .u64 0] (n + 1)).toList = flat Enc.e (List.replicate (n + 1) (⟨0⟩ : U64)) := by
    have := zeroRow_eq (⟨0⟩ : U64) (n + 1)
    have h2 : Builtin.zeroCells #[.int .u64 0] (n + 1) = zeroRow (Enc.e (⟨0⟩ : U64)).toArray ((n + 1) * Enc.s U64) := rfl
    rw [h2, this]
  rw [e, z]
  exact h
/-- The object's words: its head, and nothing. -/
def putW (k n z : Int) (a : Ar) : Ar := { a with ws := clrW (setW a.ws a.top (packH k n z)) (a.top + 1) n.toNat, top := a.top + (n + 1) }
theorem askT4_ok (t : Tab) (h115 : look t 115 = s115) {Q : Value → Mem → Prop} {g g6 : Nat} {s r : Sl} {a : Ar} {D : List Nat} {M m0 : Mem} {k n z : Int} (im : Im M g s r a D) (hO : Off (g :: D) m0 M) (hg6 : g6 ∉ g :: D) (hh : M g6 = some (.cells #[.int .i64 k, .int .i64 n, .int .i64 z] 72 (0, 0)))
    (hok : hdOk k n z = true) (t0 : 0 ≤ a.top) (t1 : a.top + n + 1 ≤ a.ws.length) (t2 : a.ws.length ≤ 2 ^ 20)
    (hK : ∀ M', Off (g :: D) m0 M' → Im M' g s r (putW k n z a) D → ret Q (.tuple #[.int .i64 a.top, .int .i64 0]) M') : askT4 (look t) Q g g6 n M := by
  have b := hd_b hok
  have hAt := im.w.at
  have hsn := hAt.n
  have hsc := hAt.c
  unfold askT4
  refine ⟨_, cell_of im.p 3, fun q => q g = M g ∧ q g6 = M g6, ⟨rfl, rfl⟩, _, _, _, fun q hq => cell_of (hq.1.trans im.p) 0, _, fun q hq => cell_of (hq.2.trans hh) 0, _, fun q hq => cell_of (hq.2.trans hh) 1, _, fun q hq => cell_of (hq.2.trans hh) 2, ?_⟩
  refine via h115 ⟨k, n, z, rfl, hok, _, _, rfl, ⟨rfl, rfl⟩, ?_⟩
  refine im.put_w t0 (by omega) fun m1 o1 im1 => ⟨⟨o1 g im.g, o1 g6 fun h => hg6 (by simp [h])⟩, _, _, _, cell_of im1.p 0, ?_⟩
  have w1 : IntKind.i64.wrap (n + 1) = n + 1 := w64 (by omega) (by omega)
  have w2 : IntKind.i64.wrap (a.top + (n + 1)) = a.top + (n + 1) := w64 (by omega) (by omega)
  have w3 : IntKind.i64.wrap (a.top + 1) = a.top + 1 := w64 (by omega) (by omega)
  rw [w1, w2, w3]
  refine ⟨by omega, by omega, by omega, by omega, ?_⟩
  rw [if_neg (by omega)]
  have el : (a.top + (n + 1)).toNat - (a.top + 1).toNat = (n.toNat - 1) + 1 := by omega
  rw [el]
  obtain ⟨d, hd⟩ := im1.w.base (by show 0 < (setW a.ws _ _).length; rw [setW_len]; omega)
  rw [hd]
  refine clrA_w ?_
  have hrl : (List.replicate ((n.toNat - 1) + 1) (⟨0⟩ : U64)).length = n.toNat := by rw [List.length_replicate]; omega
  refine im1.w.mid hd (q := a.top + 1) (ws' := clrW (setW a.ws a.top (packH k n z)) (a.top + 1) n.toNat) (by omega) (by rw [hrl]; show _ ≤ ((setW a.ws _ _).length : Int); rw [setW_len]; omega) (by rw [hrl]; omega) (by rw [clrW_len]) (fun j j0 j1 => ?_) (fun m2 o2 w2' => ?_)
  · rw [hrl, gw_clr (by omega) _ (by rw [setW_len]; omega) j j0]
    by_cases c : a.top + 1 ≤ j ∧ j < a.top + 1 + n.toNat
    · rw [if_pos c, if_pos c]
      unfold gw
      simp only [List.getD_eq_getElem?_getD]
      rw [List.getElem?_replicate, if_pos (by omega)]
      rfl
    · rw [if_neg c, if_neg c]
  · have im2 : Im m2 g s r { a with ws := clrW (setW a.ws a.top (packH k n z)) (a.top + 1) n.toNat } D := ⟨by unfold Ptr; rw [o2 g im.g]; exact im1.p, w2', im.g⟩
    refine ⟨_, cell_of im2.p 3, ?_⟩
    show stoA m2 ⟨g, 3, none⟩ [.int .i64 (IntKind.i64.wrap (a.top + (n + 1)))] _
    rw [w2]
    refine im2.fld 3 _ (putW k n z a) rfl (by decide) rfl rfl rfl fun m3 o3 im3 => hK m3 (((hO.trans (Off.of_eq fun q hq => o1 q fun h => hq (by simp [h]))).trans (Off.of_eq fun q hq => o2 q fun h => hq (by simp [h]))).put (by simp) o3) im3
/-- An object is put, if there is room. -/
def putA (k n : Int) (a : Ar) : Ar × Int × Int :=
  if n + 1 > freeA a then (a, 0, 2)
  else (if bornB k = true then { putW k n a.ser a with ser := a.ser + 1 } else putW k n 0 a, a.top, 0)
theorem free_le {a : Ar} (hN : NumP a) : freeA a ≤ endA a a.to - a.top ∧ endA a a.to ≤ a.ws.length ∧ 1 ≤ a.top ∧ -16000 ≤ freeA a := by
  have hh := halves hN
  have hf := hN.f
  have sm := hN.sm
  have s1 := sm.s1
  have hl := sm.l
  unfold freeP at hf
  unfold freeA leftA
  split
  · rename_i hc
    rw [if_pos hc] at hf
    omega
  · omega
theorem askT2_ok (t : Tab) (h115 : look t 115 = s115) (h114 : look t 114 = s114) (h112 : look t 112 = s112) {Q : Value → Mem → Prop} {g : Nat} {s r : Sl} {a : Ar} {D : List Nat} {M m0 : Mem} {k n : Int} (im : Im M g s r a D) (hO : Off (g :: D) m0 M)
    (hsz : sizeB k n = true) (hN : NumP a) (hK : ∀ M', Off (g :: D) m0 M' → Im M' g s r (putA k n a).1 D → ret Q (.tuple #[.int .i64 (putA k n a).2.1, .int .i64 (putA k n a).2.2]) M') : askT2 (look t) Q g k n M := by
  unfold askT2
  have hfl := free_le hN
  have sm := hN.sm
  have s1 := sm.s1
  have hl := sm.l
  have hz0 := hN.z0
  have hz1 := hN.z1
  have hok : hdOk k n (if bornB k = true then a.ser else 0) = true := by
    unfold hdOk
    rw [hsz]
    cases bornB k with
    | true => simp; omega
    | false => simp
  have b := hd_b hok
  have w1 : IntKind.i64.wrap (n + 1) = n + 1 := w64 (by omega) (by omega)
  refine via h112 ⟨g, s, r, a, rfl, im.p, hN, _, rfl, ?_⟩
  by_cases c : n + 1 > freeA a
  · rw [if_pos (by rw [w1]; simpa using c)]
    have e : putA k n a = (a, 0, 2) := if_pos c
    rw [e] at hK
    exact hK M hO im
  rw [if_neg (by rw [w1]; simpa using c)]
  have e : putA k n a = (if bornB k = true then { putW k n a.ser a with ser := a.ser + 1 } else putW k n 0 a, a.top, 0) := if_neg c
  rw [e] at hK
  refine newA_intro fun g6 m2 hg6 e2 hb2 hle2 => sto (c := #[.int .i64 0, .int .i64 0, .int .i64 0]) (t := 72) hb2 rfl (by simp) fun m3 e3 h3 ne3 => via h114 ⟨k, rfl, _, rfl, ?_⟩
  have h3 : m3 g6 = some (.cells #[.int .i64 k, .int .i64 n, .int .i64 0] 72 (0, 0)) := h3
  have n6 := im.fresh hg6
  have le3 : Mem.le M m3 := le_other hle2 hg6 ne3
  have im3 := im.le le3
  have hO3 : Off (g :: D) m0 m3 := hO.trans (Off.of_le le3)
  have hg60 : m0 g6 = none := by
    cases h : m0 g6 with
    | none => rfl
    | some o => have := hO g6 o n6 h; rw [hg6] at this; cases this
  cases hb : bornB k with
  | false =>
    rw [hb] at hok hK
    rw [if_neg (by simp)]
    exact askT4_ok t h115 im3 hO3 n6 h3 hok (by omega) (by omega) (by omega) hK
  | true =>
    rw [hb] at hok hK
    rw [if_pos rfl]
    refine ⟨_, cell_of im3.p 8, sto (c := #[.int .i64 k, .int .i64 n, .int .i64 0]) (t := 72) h3 rfl (by simp) fun m4 e4 h4 ne4 => ?_⟩
    have h4 : m4 g6 = some (.cells #[.int .i64 k, .int .i64 n, .int .i64 a.ser] 72 (0, 0)) := h4
    have im4 := im3.ext (m' := m4) fun q hq => ne4 q fun h => n6 (h ▸ hq)
    refine ⟨_, cell_of im4.p 8, ?_⟩
    rw [w64 (x := a.ser + 1) (by omega) (by omega)]
    refine im4.fld 8 _ { a with ser := a.ser + 1 } rfl (by decide) rfl rfl rfl fun m5 o5 im5 => ?_
    have h5 : m5 g6 = some (.cells #[.int .i64 k, .int .i64 n, .int .i64 a.ser] 72 (0, 0)) := by rw [o5 g6 fun h => n6 (by simp [h])]; exact h4
    exact askT4_ok t h115 im5 ((hO3.fresh hg60 ne4).put (by simp) o5) n6 h5 hok (by show 0 ≤ a.top; omega) (by show a.top + n + 1 ≤ a.ws.length; omega) (by show a.ws.length ≤ _; omega) hK
/-- Room is made, if there is none. -/
def roomA (n : Int) (a : Ar) : Ar := if n + 1 > freeA a then collA a else a
theorem room_ok {n : Int} {a : Ar} (h : OkC a) : OkC (roomA n a) ∧ Sz a (roomA n a) := by
  unfold roomA
  split
  · obtain ⟨⟨T1, f1⟩, f2, f3, f4⟩ := h.fin
    obtain ⟨g1, g2, g3⟩ := flip_gd f1
    obtain ⟨k1, k2, k3, k4⟩ := fin_gd g1
    exact ⟨.inl k1, f2.trans (g2.trans k2)⟩
  · exact ⟨h, Sz.refl a⟩
theorem askT1_ok (t : Tab) (h115 : look t 115 = s115) (h114 : look t 114 = s114) (h112 : look t 112 = s112) (h113 : look t 113 = s113) {Q : Value → Mem → Prop} {g : Nat} {s r : Sl} {a : Ar} {D : List Nat} {M m0 : Mem} {k n : Int} (im : Im M g s r a D) (hO : Off (g :: D) m0 M)
    (hsz : sizeB k n = true) (hG : OkC a) (hK : ∀ M', Off (g :: D) m0 M' → Im M' g s r (putA k n (roomA n a)).1 D → ret Q (.tuple #[.int .i64 (putA k n (roomA n a)).2.1, .int .i64 (putA k n (roomA n a)).2.2]) M') : askT1 (look t) Q g k n M := by
  unfold askT1
  have hN := hG.num.1
  have hfl := free_le hN
  have sm := hN.sm
  have s1 := sm.s1
  have hl := sm.l
  have bn : 1 ≤ n ∧ n ≤ 256 := by
    have := hd_b (k := k) (s := n) (z := if bornB k = true then 1 else 0) (by unfold hdOk; rw [hsz]; cases bornB k <;> simp)
    omega
  have w1 : IntKind.i64.wrap (n + 1) = n + 1 := w64 (by omega) (by omega)
  refine via h112 ⟨g, s, r, a, rfl, im.p, hN, _, rfl, ?_⟩
  have hr := (room_ok (n := n) hG).1.num.1
  by_cases c : n + 1 > freeA a
  · rw [if_pos (by rw [w1]; simpa using c)]
    have e : roomA n a = collA a := if_pos c
    rw [e] at hK hr
    refine via h113 ⟨g, s, r, a, D, rfl, im, hG, fun m1 o1 im1 => ⟨rfl, ?_⟩⟩
    exact askT2_ok t h115 h114 h112 im1 (hO.trans (Off.of_eq o1)) hsz hr hK
  · rw [if_neg (by rw [w1]; simpa using c)]
    have e : roomA n a = a := if_neg c
    rw [e] at hK
    exact askT2_ok t h115 h114 h112 im hO hsz hN hK
/-- The cycle goes on, or begins. -/
def paceA (a : Ar) : Ar :=
  if a.cyc = true then stepsA 2 (overA a) else if 2 * (a.top - startA a a.to) > a.semi - 1 then stepsA 2 (overA (flipA a)) else a
def askA (k n : Int) (a : Ar) : Ar × Int × Int := if n + 1 > a.semi - 1 then (a, 0, 2) else putA k n (roomA n (paceA a))
theorem pace_ok {a : Ar} (h : OkC a) : OkC (paceA a) ∧ Sz a (paceA a) := by
  unfold paceA
  by_cases c : a.cyc = true
  · rw [if_pos c]
    obtain ⟨h1, h2, h3⟩ := h.over
    obtain ⟨k1, k2, k3, k4⟩ := steps_gd 2 _ h1
    exact ⟨k1.okC, h2.trans k2⟩
  · rw [if_neg c]
    split
    · rcases h with ⟨T1, h⟩ | ⟨T1, T2, h⟩
      · obtain ⟨g1, g2, g3⟩ := flip_gd h
        rw [g1.over]
        obtain ⟨k1, k2, k3, k4⟩ := steps_gd 2 _ g1
        exact ⟨k1.okC, g2.trans k2⟩
      · exact absurd h.c.cy c
    · exact ⟨h, Sz.refl a⟩
def s69 : Spec := fun args m Q => ∃ (g : Nat) (s r : Sl) (a : Ar) (D : List Nat) (k n : Int), args = [.pointer (some ⟨g, 0, none⟩), .int .i64 k, .int .i64 n] ∧ Im m g s r a D ∧ OkC a ∧ sizeB k n = true ∧
  ∀ m', (∀ b, b ∉ g :: D → m' b = m b) → Im m' g s r (askA k n a).1 D → Q (.tuple #[.int .i64 (askA k n a).2.1, .int .i64 (askA k n a).2.2]) m'
set_option maxHeartbeats 1000000 in
theorem f69 (t : Tab) (h115 : look t 115 = s115) (h114 : look t 114 = s114) (h112 : look t 112 = s112) (h113 : look t 113 = s113) (h110 : look t 110 = s110) (h111 : look t 111 = s111) (h63 : look t 63 = s63) : ∀ args m Q, s69 args m Q → FA Tryz.prog (look t) kp69 Tryz.f69 args m Q := by
  rintro args m Q ⟨g, s, r, a, D, k, n, rfl, im, hG, hsz, hQ⟩
  have bn : 1 ≤ n ∧ n ≤ 256 := by
    have := hd_b (k := k) (s := n) (z := if bornB k = true then 1 else 0) (by unfold hdOk; rw [hsz]; cases bornB k <;> simp)
    omega
  have hN := hG.num.1
  have sm := hN.sm
  have s0 := sm.s0
  have s1 := sm.s1
  have t0 := sm.t0
  have t1 := sm.t1
  have hl := sm.l
  have w1 : IntKind.i64.wrap (n + 1) = n + 1 := w64 (by omega) (by omega)
  have w2 : IntKind.i64.wrap (a.semi - 1) = a.semi - 1 := w64 (by omega) (by omega)
  rw [e69]
  refine ⟨_, cell_of im.p 1, ?_⟩
  rw [w2]
  by_cases c : n + 1 > a.semi - 1
  · rw [if_pos (by rw [w1]; simpa using c)]
    have e : askA k n a = (a, 0, 2) := if_pos c
    rw [e] at hQ
    exact ret_intro (Mem.le_refl _) (hQ m (fun _ _ => rfl) im)
  rw [if_neg (by rw [w1]; simpa using c)]
  have e : askA k n a = putA k n (roomA n (paceA a)) := if_neg c
  rw [e] at hQ
  have fin : ∀ M' : Mem, Off (g :: D) m M' → Im M' g s r (putA k n (roomA n (paceA a))).1 D → ret Q (.tuple #[.int .i64 (putA k n (roomA n (paceA a))).2.1, .int .i64 (putA k n (roomA n (paceA a))).2.2]) M' := fun M' hO' im' => ret_off hO' (hQ _ (fun b hb => mix_off hb) im'.mix)
  obtain ⟨p1, p2⟩ := pace_ok hG
  refine ⟨_, cell_of im.p 4, ?_⟩
  by_cases hc : a.cyc = true
  · have ep : paceA a = stepsA 2 (overA a) := if_pos hc
    rw [ep] at p1 fin
    rw [if_pos hc]
    refine via h110 ⟨g, s, r, a, D, 2, rfl, im, hG, by decide, by decide, fun m1 j o1 im1 => ⟨_, rfl, ?_⟩⟩
    exact askT1_ok t h115 h114 h112 h113 im1 (Off.of_eq o1) hsz p1 fin
  · rw [if_neg hc]
    obtain ⟨T1, hI⟩ : ∃ T1, I0 a T1 := by
      rcases hG with h | ⟨T1, T2, h⟩
      · exact h
      · exact absurd h.c.cy hc
    have hh := halves hN
    have w3 : IntKind.i64.wrap (a.top - startA a a.to) = a.top - startA a a.to := w64 (by omega) (by omega)
    have w4 : IntKind.i64.wrap (2 * (a.top - startA a a.to)) = 2 * (a.top - startA a a.to) := w64 (by omega) (by omega)
    refine ⟨Mem.le m, Mem.le_refl _, _, held (cell_of im.p 3), _, held (cell_of im.p 2), _, held (cell_of im.p 1), via h63 ⟨g, s, r, a, a.to, rfl, im.p, t0, t1, by omega, s1, _, rfl, Mem.le_refl _, ?_⟩⟩
    rw [w3, w4, w2]
    by_cases hd : 2 * (a.top - startA a a.to) > a.semi - 1
    · have ep : paceA a = stepsA 2 (overA (flipA a)) := by unfold paceA; rw [if_neg hc, if_pos hd]
      rw [ep] at p1 fin
      rw [if_pos (by simpa using hd)]
      obtain ⟨g1, g2, g3⟩ := flip_gd hI
      refine via h111 ⟨g, s, r, a, D, rfl, im, ⟨T1, hI⟩, fun m1 o1 im1 => ⟨rfl, via h110 ⟨g, s, r, _, D, 2, rfl, im1, g1.okC, by decide, by decide, fun m2 j o2 im2 => ⟨_, rfl, ?_⟩⟩⟩⟩
      exact askT1_ok t h115 h114 h112 h113 im2 ((Off.of_eq o1).trans (Off.of_eq o2)) hsz p1 fin
    · have ep : paceA a = a := by unfold paceA; rw [if_neg hc, if_neg hd]
      rw [ep] at p1 fin
      rw [if_neg (by simpa using hd)]
      exact askT1_ok t h115 h114 h112 h113 im (Off.refl _ _) hsz p1 fin
end Go.Proofs.YtpdcjocjkbgddaaGreat.Abs
