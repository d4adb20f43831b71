-- Printed by a turned copy of the print (wip/gen/patchprint.py), with contracts given by hand.
import Derived.Test.YtcbjdodehjpddaaPFnExactStripx0
import Derived.Test.YtcbjdodehjpddaaPFnExactStripx3
namespace Go.Proofs.Ytcbjdodehjpddaa.PFnExactStrip
open Go.RowKit Go.Proofs.YtcbjdodehjpddaaW.PrintWords Go.Proofs.YtcbjdodehjpddaaW.PrintLast Go.Proofs.YtcbjdodehjpddaaW.PrintMore
attribute [local go_sem] max2_int min2_int max_two min_two max_three min_three max_four min_four   -- for this text's walks alone
set_option linter.unusedVariables false
set_option linter.unusedSimpArgs false

/-! ### spec_l18Reach: function 65 -/
mutual
def spec_l18Reach.l0 : Nat → List Bool → List Int → Int → Int → Int → List (S101) → List (S73) → Option (List Bool)
  | 0, _, _, _, _, _, _, _ => none
  | k + 1, x3, x4, x5, x185000, x185001, x185002, x185003 => if x5 < (x4.length : Int) then (if 0 ≤ x5 then (if 0 ≤ (rd x4 x5) then (if (rd x4 x5) < (x185003.length : Int) then (if ((rd_T73 x185003 (rd x4 x5)).f0) = 18 then (spec_l18Reach.j1 k x3 x4 x5 (wrap64 ((rd x4 x5) + 1)) false x185000 x185001 x185002 x185003 ((rd_T73 x185003 (rd x4 x5)).f0) ((rd_T73 x185003 (rd x4 x5)).f1)) else (if ((rd_T73 x185003 (rd x4 x5)).f0) = 24 then (spec_l18Reach.j1 k x3 x4 x5 (wrap64 ((rd x4 x5) + 1)) false x185000 x185001 x185002 x185003 ((rd_T73 x185003 (rd x4 x5)).f0) ((rd_T73 x185003 (rd x4 x5)).f1)) else (if (wrap64 ((rd x4 x5) + 1)) < (x185003.length : Int) then (if 0 ≤ (wrap64 ((rd x4 x5) + 1)) then (if (wrap64 ((rd x4 x5) + 1)) < (x3.length : Int) then (spec_l18Reach.j1 k x3 x4 x5 (wrap64 ((rd x4 x5) + 1)) (!(rdOf false x3 (wrap64 ((rd x4 x5) + 1)))) x185000 x185001 x185002 x185003 ((rd_T73 x185003 (rd x4 x5)).f0) ((rd_T73 x185003 (rd x4 x5)).f1)) else (none)) else (none)) else (spec_l18Reach.j1 k x3 x4 x5 (wrap64 ((rd x4 x5) + 1)) false x185000 x185001 x185002 x185003 ((rd_T73 x185003 (rd x4 x5)).f0) ((rd_T73 x185003 (rd x4 x5)).f1))))) else (none)) else (none)) else (none)) else (some x3)
def spec_l18Reach.j1 : Nat → List Bool → List Int → Int → Int → Bool → Int → Int → List (S101) → List (S73) → Int → Int → Option (List Bool)
  | 0, _, _, _, _, _, _, _, _, _, _, _ => none
  | k + 1, x3, x4, x5, x7, x55, x185000, x185001, x185002, x185003, x195000, x195001 => if x55 = true then (if 0 ≤ x7 then (if x7 < (x3.length : Int) then ((some (x3.set (x7 : Int).toNat true : List Bool)).bind fun y197 => (if x4.length < 17592186044416 then ((some (x4 ++ [x7] : List Int)).bind fun y198 => ((spec_l18Leads.f x195000).bind fun t201 => (if t201 = true then (if 0 ≤ x195001 then (if x195001 < (x3.length : Int) then (if rdOf false y197 x195001 = true then (spec_l18Reach.l0 k y197 y198 (wrap64 (x5 + 1)) x185000 x185001 x185002 x185003) else (if y198.length < 17592186044416 then (spec_l18Reach.l0 k (y197.set (x195001 : Int).toNat true) (y198 ++ [x195001]) (wrap64 (x5 + 1)) x185000 x185001 x185002 x185003) else (none))) else (none)) else (none)) else (spec_l18Reach.l0 k y197 y198 (wrap64 (x5 + 1)) x185000 x185001 x185002 x185003)))) else (none))) else (none)) else (none)) else ((spec_l18Leads.f x195000).bind fun t207 => (if t207 = true then (if 0 ≤ x195001 then (if x195001 < (x3.length : Int) then (if rdOf false x3 x195001 = true then (spec_l18Reach.l0 k x3 x4 (wrap64 (x5 + 1)) x185000 x185001 x185002 x185003) else (if x4.length < 17592186044416 then (spec_l18Reach.l0 k (x3.set (x195001 : Int).toNat true) (x4 ++ [x195001]) (wrap64 (x5 + 1)) x185000 x185001 x185002 x185003) else (none))) else (none)) else (none)) else (spec_l18Reach.l0 k x3 x4 (wrap64 (x5 + 1)) x185000 x185001 x185002 x185003)))
end
def spec_l18Reach.f (k : Nat) (a0_0 : Int) (a0_1 : Int) (l0_2 : List (S101)) (l0_3 : List (S73)) : Option (List Bool) := if 0 ≤ (l0_3.length : Int) then (if ((l0_3.length : Int) : Int).toNat ≤ 281474976710656 then ((some (List.replicate ((l0_3.length : Int) : Int).toNat false : List Bool)).bind fun y185 => (if 0 < (y185.length : Int) then (spec_l18Reach.l0 k (y185.set (0 : Int).toNat true) (([0] : List Int)) 0 a0_0 a0_1 l0_2 l0_3) else (none))) else (none)) else (none)
theorem spec_l18Reach.mono_l : ∀ k, (∀ y0 y1 y2 y3 y4 y5 y6, LeO (spec_l18Reach.l0 k y0 y1 y2 y3 y4 y5 y6) (spec_l18Reach.l0 (k + 1) y0 y1 y2 y3 y4 y5 y6)) ∧ (∀ y0 y1 y2 y3 y4 y5 y6 y7 y8 y9 y10, LeO (spec_l18Reach.j1 k y0 y1 y2 y3 y4 y5 y6 y7 y8 y9 y10) (spec_l18Reach.j1 (k + 1) y0 y1 y2 y3 y4 y5 y6 y7 y8 y9 y10))
  | 0 => ⟨fun _ _ _ _ _ _ _ r h => by simp [spec_l18Reach.l0] at h, fun _ _ _ _ _ _ _ _ _ _ _ r h => by simp [spec_l18Reach.j1] at h⟩
  | k + 1 => by
    obtain ⟨ih0, ih1⟩ := spec_l18Reach.mono_l k
    refine ⟨?_, ?_⟩
    · intro y0 y1 y2 y3 y4 y5 y6
      unfold spec_l18Reach.l0
      repeat' first
      | (with_reducible exact ih0 _ _ _ _ _ _ _)
      | (with_reducible exact ih1 _ _ _ _ _ _ _ _ _ _ _)
      | (with_reducible exact LeO.refl _)
      | (with_reducible exact LeO.none _)
      | (with_reducible refine LeO.ite ?_ ?_)
      | (with_reducible refine LeO.bind ?_ (fun _ => ?_))
      | exact ih0 _ _ _ _ _ _ _
      | exact ih1 _ _ _ _ _ _ _ _ _ _ _
      | exact LeO.none _
      | refine LeO.ite ?_ ?_
      | refine LeO.bind ?_ (fun _ => ?_)
    · intro y0 y1 y2 y3 y4 y5 y6 y7 y8 y9 y10
      unfold spec_l18Reach.j1
      repeat' first
      | (with_reducible exact ih0 _ _ _ _ _ _ _)
      | (with_reducible exact ih1 _ _ _ _ _ _ _ _ _ _ _)
      | (with_reducible exact LeO.refl _)
      | (with_reducible exact LeO.none _)
      | (with_reducible refine LeO.ite ?_ ?_)
      | (with_reducible refine LeO.bind ?_ (fun _ => ?_))
      | exact ih0 _ _ _ _ _ _ _
      | exact ih1 _ _ _ _ _ _ _ _ _ _ _
      | exact LeO.none _
      | refine LeO.ite ?_ ?_
      | refine LeO.bind ?_ (fun _ => ?_)
theorem spec_l18Reach.mono : ∀ a0 a1 a2 a3 k, LeO (spec_l18Reach.f k a0 a1 a2 a3) (spec_l18Reach.f (k + 1) a0 a1 a2 a3) := by
  intro a0 a1 a2 a3 k
  obtain ⟨ih0, ih1⟩ := spec_l18Reach.mono_l k
  unfold spec_l18Reach.f
  repeat' first
      | (with_reducible exact ih0 _ _ _ _ _ _ _)
      | (with_reducible exact ih1 _ _ _ _ _ _ _ _ _ _ _)
      | (with_reducible exact LeO.refl _)
      | (with_reducible exact LeO.none _)
      | (with_reducible refine LeO.ite ?_ ?_)
      | (with_reducible refine LeO.bind ?_ (fun _ => ?_))
      | exact ih0 _ _ _ _ _ _ _
      | exact ih1 _ _ _ _ _ _ _ _ _ _ _
      | exact LeO.none _
      | refine LeO.ite ?_ ?_
      | refine LeO.bind ?_ (fun _ => ?_)
def spec_l18Reach.T7 : Bool × List (List Nat × List Nat) := (true, [([], []), ([0], [0]), ([], []), ([], []), ([2, 3], [2, 3]), ([4], [4]), ([1, 5], [1, 5]), ([6], [6]), ([], []), ([8, 7, 0, 1, 2, 3, 4, 5, 6, 7, 8], [7, 8])])
def spec_l18Reach.B7 : List Nat := [0, 1, 0, 0, 12, 28, 63, 127, 0, 511]
theorem spec_l18Reach.tab7 : rtab .any (opsOf Try.f65 7) = spec_l18Reach.T7 := by kernel_rfl
theorem spec_l18Reach.bits7 : waitsOk spec_l18Reach.T7.2 spec_l18Reach.B7 = true := by kernel_rfl
set_option maxHeartbeats 8000000 in
set_option maxRecDepth 100000 in
theorem spec_l18Reach.calls (k : Nat) (a0_0 : Int) (a0_1 : Int) (A0_2 : Option Addr) (c0_2 : Nat) (l0_2 : List (S101)) (A0_3 : Option Addr) (c0_3 : Nat) (l0_3 : List (S73)) (r : List Bool) (w : World) (hr0_2 : Kd.C k101 w A0_2 l0_2.length l0_2) (hc0_2 : l0_2.length ≤ c0_2) (hr0_3 : Kd.C k73 w A0_3 l0_3.length l0_3) (hc0_3 : l0_3.length ≤ c0_3) (h : spec_l18Reach.f k a0_0 a0_1 l0_2 l0_3 = some r) :
    Calls Try.prog 65 #[.agg #[.int .i64 a0_0, .int .i64 a0_1, .slice A0_2 l0_2.length c0_2, .slice A0_3 l0_3.length c0_3]] w fun e w' => ∃ v0_ : Value, e = .returned (v0_) ∧ Kd.R Kd.bool 4 w' w.heap.size (fun _ => True) v0_ r ∧ Below w.heap.size w w' := by
  have hu38 := Try.underlying38
  have hu73 := Try.underlying73
  have HR0_2 := Aside0.mk hr0_2
  have HC0_2 := Aside0.mk hc0_2
  clear hr0_2 hc0_2
  have HR0_3 := Aside0.mk hr0_3
  have HC0_3 := Aside0.mk hc0_3
  clear hr0_3 hc0_3
  have HB := Aside0.mk (Below.refl w.heap.size w)
  have H : (if 0 ≤ (l0_3.length : Int) then (if ((l0_3.length : Int) : Int).toNat ≤ 281474976710656 then ((some (List.replicate ((l0_3.length : Int) : Int).toNat false : List Bool)).bind fun y185 => (if 0 < (y185.length : Int) then (spec_l18Reach.l0 k (y185.set (0 : Int).toNat true) (([0] : List Int)) 0 a0_0 a0_1 l0_2 l0_3) else (none))) else (none)) else (none)) = some r := h
  clear h
  by_cases c2 : 0 ≤ (l0_3.length : Int)
  · rw [if_pos c2] at H
    have c2b0 := eq_true c2
    have c2b1 : decide (0 ≤ (l0_3.length : Int)) = true := decide_eq_true c2
    clear c2
    by_cases c3 : ((l0_3.length : Int) : Int).toNat ≤ 281474976710656
    · rw [if_pos c3] at H
      have c3b0 := eq_true c3
      have c3b1 : decide (((l0_3.length : Int) : Int).toNat ≤ 281474976710656) = true := decide_eq_true c3
      clear c3
      obtain ⟨y185, hy185⟩ : ∃ y_ : List Bool, y_ = (List.replicate ((l0_3.length : Int) : Int).toNat false) := ⟨_, rfl⟩
      replace H : (if 0 < (y185.length : Int) then (spec_l18Reach.l0 k (y185.set (0 : Int).toNat true) (([0] : List Int)) 0 a0_0 a0_1 l0_2 l0_3) else (none)) = some r := by first | (rw [hy185]; with_reducible exact H) | (have H2_ := (Option.bind_some _ _).symm.trans H; rw [hy185]; with_reducible exact H2_) | (have H2_ := (Option.bind_some _ _).symm.trans H; with_reducible exact H2_) | with_reducible exact H | (rw [hy185]; exact H) | exact H
      have Ny185 := Aside0.mk hy185
      clear hy185
      obtain ⟨y188, hy188⟩ : ∃ y_ : List Int, y_ = (([0] : List Int)) := ⟨_, rfl⟩
      replace H : (if 0 < (y185.length : Int) then (spec_l18Reach.l0 k (y185.set (0 : Int).toNat true) y188 0 a0_0 a0_1 l0_2 l0_3) else (none)) = some r := by first | (rw [hy188]; with_reducible exact H) | (have H2_ := (Option.bind_some _ _).symm.trans H; rw [hy188]; with_reducible exact H2_) | (have H2_ := (Option.bind_some _ _).symm.trans H; with_reducible exact H2_) | with_reducible exact H | (rw [hy188]; exact H) | exact H
      have Ny188 := Aside0.mk hy188
      clear hy188
      by_cases c4 : 0 < (y185.length : Int)
      · rw [if_pos c4] at H
        have c4b0 : decide (0 < (y185.length : Int)) = true := decide_eq_true c4
        have c4b1 : decide (0 < y185.length) = true := decide_eq_true (by omega)
        clear c4
        obtain ⟨y191, hy191⟩ : ∃ y_ : List Bool, y_ = (y185.set (0 : Int).toNat true) := ⟨_, rfl⟩
        replace H : (spec_l18Reach.l0 k y191 y188 0 a0_0 a0_1 l0_2 l0_3) = some r := by first | (rw [hy191]; with_reducible exact H) | (have H2_ := (Option.bind_some _ _).symm.trans H; rw [hy191]; with_reducible exact H2_) | (have H2_ := (Option.bind_some _ _).symm.trans H; with_reducible exact H2_) | with_reducible exact H | (rw [hy191]; exact H) | exact H
        have Ny191 := Aside0.mk hy191
        clear hy191
        have H' := Aside0.mk H
        clear H
        go_enter Try.func65, Try.ntmps65
        go_wp2_with (first | ((with_reducible refine gate_dst (N := 1) rfl ?_); (try (refine gate_guard (by rfl) ?_; dsimp only)); refine box_event ?hg (N := 1) ?hd (cs := #[.int .i64 a0_0, .int .i64 a0_1, .slice A0_2 l0_2.length c0_2, .slice A0_3 l0_3.length c0_3]) (t := 38) ?hr ?_; (case hd => rfl); (case hg => rfl); (case hr => first | (go_simp; done) | (go_simp; rfl)); intro gb184 hg w6 hbox hb; have n0_ := Aside0.mk (below_step (by repeat (first | (with_reducible first | exact HB.out | apply below_alloc | apply pw_below_drewN | apply below_drew1) | exact HB.out)) hb); have n1_ := Aside0.mk (hbox); have n2_ := Aside0.mk ((by rw [hg]; exact (below_size (by repeat (first | (with_reducible first | exact HB.out | apply below_alloc | apply pw_below_drewN | apply below_drew1) | exact HB.out))) : w.heap.size ≤ gb184)); have n3_ := Aside0.mk ((by rw [hg]; exact (below_size (by repeat (first | (with_reducible first | exact HB.out | apply below_alloc | apply pw_below_drewN | apply below_drew1) | exact HB.out))) : w.heap.size ≤ gb184)); clear HB; have HB := n0_; have BK184 := n1_; have GW184 := n2_; have GE184 := n3_; clear n0_ n1_ n2_ n3_; clear hb hbox hg; have hcz7_0 : w6.cell? ⟨gb184, 0, none⟩ = some (.int .i64 a0_0) := (blk_cell BK184.out 0).trans rfl; have hcz7_1 : w6.cell? ⟨gb184, 1, none⟩ = some (.int .i64 a0_1) := (blk_cell BK184.out 1).trans rfl; have hcz7_2 : w6.cell? ⟨gb184, 2, none⟩ = some (.slice A0_2 l0_2.length c0_2) := (blk_cell BK184.out 2).trans rfl; have hcz7_3 : w6.cell? ⟨gb184, 3, none⟩ = some (.slice A0_3 l0_3.length c0_3) := (blk_cell BK184.out 3).trans rfl; have hfz7_0 := blk_frozen BK184.out 0; have hfz7_1 := blk_frozen BK184.out 1; have hfz7_2 := blk_frozen BK184.out 2; have hfz7_3 := blk_frozen BK184.out 3) | ((with_reducible refine gate_dst (N := 11) rfl ?_); (try (refine gate_guard (by rfl) ?_; dsimp only)); refine Kd.R_make Kd.bool _ 4 rfl (N := 11) rfl 87 _ _ rfl (l0_3.length : Int) rfl rfl Try.underlying87 (.bool false) 1 info4 rfl (by decide) (by omega) false (ok := fun _ => True) (okp := fun _ => True) rfl (fun _ hk => hk) trivial (of_decide_eq_true (by first | (with_reducible assumption) | assumption)) (Nat.le_trans (Nat.mul_le_mul_right _ (of_decide_eq_true (by first | (with_reducible assumption) | assumption) : (l0_3.length : Int).toNat ≤ 281474976710656)) (by omega)) (Below.refl _ _) (Nat.le_refl _) ?_; intro v186 w8 ho9 hb hg_ hnew_; clear hg_ hnew_; (first | rw [← Ny185.out] at ho9 | (simp only [Int.reduceToNat] at ho9; rw [← Ny185.out] at ho9)); have n0_ := Aside0.mk (Kd.R_lower ho9 (below_size (by repeat (first | (with_reducible first | exact HB.out | apply below_alloc | apply pw_below_drewN | apply below_drew1 | refine below_set ?_ GE184.out) | exact HB.out)))); have n1_ := Aside0.mk (blk_below (g := gb184) (o := .cells #[.int .i64 a0_0, .int .i64 a0_1, .slice A0_2 l0_2.length c0_2, .slice A0_3 l0_3.length c0_3] 38 (0, 0)) (by (with_reducible repeat (first | refine blk_drewN ?_ _ | refine blk_drew ?_ | refine blk_alloc ?_ _)); exact BK184.out) hb); have n2_ := Aside0.mk (below_step (by repeat (first | (with_reducible first | exact HB.out | apply below_alloc | apply pw_below_drewN | apply below_drew1 | refine below_set ?_ GE184.out) | exact HB.out)) hb); clear BK184; clear HB; have HO187 := n0_; have BK184 := n1_; have HB := n2_; clear n0_ n1_ n2_; clear hb ho9) | ((with_reducible refine gate_dst (N := 12) rfl ?_); (try (refine gate_guard (by rfl) ?_; dsimp only)); refine Kd.R_lit (Kd.int .i64) _ 3 ?hg (N := 12) ?hd (xs := ([0] : List Int)) (inner := [.int .i64 0]) (ok := fun _ => True) (okp := fun _ => True) ?hr ?hp (fun _ hk => hk) trivial (Below.refl _ _) (Nat.le_refl _) (by simp) ?_; (case hd => rfl); (case hg => rfl); (case hr => first | (go_simp; done) | (go_simp; rfl)); (case hp => exact (Reps.one (show Kd.M (Kd.int .i64) _ _ _ 0 [.int .i64 0] from rfl) (Reps.none _ _))); intro v189 w10 ho11 hb hg_ hnew_; clear hg_ hnew_; (first | rw [← Ny188.out] at ho11 | (simp only [Int.reduceToNat] at ho11; rw [← Ny188.out] at ho11)); have n0_ := Aside0.mk (Kd.R_below (by (with_reducible repeat (first | apply Kd.R_alloc | apply Kd.R_drewN | apply Kd.R_drew)); exact HO187.out) hb); have n1_ := Aside0.mk (Kd.R_lower ho11 (below_size (by repeat (first | (with_reducible first | exact HB.out | apply below_alloc | apply pw_below_drewN | apply below_drew1 | refine below_set ?_ GE184.out) | exact HB.out)))); have n2_ := Aside0.mk (blk_below (g := gb184) (o := .cells #[.int .i64 a0_0, .int .i64 a0_1, .slice A0_2 l0_2.length c0_2, .slice A0_3 l0_3.length c0_3] 38 (0, 0)) (by (with_reducible repeat (first | refine blk_drewN ?_ _ | refine blk_drew ?_ | refine blk_alloc ?_ _)); exact BK184.out) hb); have n3_ := Aside0.mk (below_step (by repeat (first | (with_reducible first | exact HB.out | apply below_alloc | apply pw_below_drewN | apply below_drew1 | refine below_set ?_ GE184.out) | exact HB.out)) hb); clear HO187; clear BK184; clear HB; have HO187 := n0_; have HO190 := n1_; have BK184 := n2_; have HB := n3_; clear n0_ n1_ n2_ n3_; clear hb ho11; have p5 : 0 ≤ (0 : Int) := (by omega); have q5 : (0 : Int) < ((y185.length : Int) : Int) := of_decide_eq_true (by first | (with_reducible assumption) | assumption); have qi5 : (0 < y185.length) = True := eq_true (by omega); obtain ⟨go5, co5, eo5, gb5, gl5, cl5, HG5⟩ := Kd.R_form HO187.out (by omega); (first | cases eo5 | (injection eo5 with ea_ en_ ec_; (first | subst ea_ | (injection ea_ with ea_; subst ea_)); subst ec_; clear en_)); have GB5 := Aside0.mk gb5; have GG5 := Aside0.mk HG5; clear gb5 gl5 HG5; obtain ⟨hx5_0, hf5_0⟩ := Kd.R_celln false HO187.out (0 : Int) p5 q5; (try rw [show ((0 : Int)).toNat = 0 from rfl] at hx5_0); (try simp only [Nat.reduceMul, Nat.zero_mul, Nat.zero_add, Nat.reduceAdd] at hx5_0); (try rw [show ((0 : Int)).toNat = 0 from rfl] at hf5_0); (try simp only [Nat.reduceMul, Nat.zero_mul, Nat.zero_add, Nat.reduceAdd] at hf5_0); replace p5 := eq_true p5; replace q5 := eq_true q5; obtain ⟨hy12_, hz12_⟩ := Kd.R_celln false HO187.out (0 : Int) (by omega) (of_decide_eq_true (by first | (with_reducible assumption) | assumption)); (try simp only [Int.reduceToNat, Int.toNat_zero, Int.toNat_ofNat, Nat.reduceMul, Nat.zero_mul, Nat.zero_add] at hy12_ hz12_); (try rw [show ((0 : Int)).toNat = 0 from rfl] at hy12_); (try rw [show ((0 : Int)).toNat = 0 from rfl] at hz12_); have HP12 := Kd.R_putg HO187.out (0 : Int) true) | ((with_reducible refine gate_store (t := 4) (p := 14) rfl ?_); refine store_event (t := 4) (p := 14) (v := ?vo_w13) (w1 := (w10.setCell ⟨go5, (0 : Int).toNat, none⟩ (.bool true))) ?hg ?ho ?hn ?hr ?_; (case ho => rfl); (case hg => rfl); (case hn => rfl); (case hr => first | (go_simp; done) | (go_simp; rfl)); intro w13 hw; have hg : w10.grownBy w13 (some go5) := (by rw [hw]; exact HP12.2); have hp_ : Kd.R Kd.bool 4 w13 w.heap.size (fun _ => True) (.slice (some ⟨go5, 0, none⟩) y185.length co5) y191 := (by rw [hw, Ny191.out]; exact HP12.1); clear HP12; have n0_ := Aside0.mk (blk_grown (g := gb184) (o := .cells #[.int .i64 a0_0, .int .i64 a0_1, .slice A0_2 l0_2.length c0_2, .slice A0_3 l0_3.length c0_3] 38 (0, 0)) (by (with_reducible repeat (first | refine blk_drewN ?_ _ | refine blk_drew ?_ | refine blk_alloc ?_ _)); exact BK184.out) hg (Kd.R_ne HO187.out BK184.out (by decide))); have n1_ := Aside0.mk (hp_); have n2_ := Aside0.mk (Kd.R_over' (v := (.slice (some ⟨go5, 0, none⟩) y185.length co5)) (by (with_reducible repeat (first | apply Kd.R_alloc | apply Kd.R_drewN | apply Kd.R_drew)); exact HO190.out) (Kd.R_typed HO187.out) (by decide) hg); have n3_ := Aside0.mk ((by rw [hw]; exact below_set (HB.out) GB5.out : Below w.heap.size w w13)); clear BK184; clear HO187; clear HO190; clear HB; have BK184 := n0_; have HO187 := n1_; have HO190 := n2_; have HB := n3_; clear n0_ n1_ n2_ n3_; clear hg hw hp_))
        go_loopg [4, 5] k (fun kq v4 v5 w' => ∃ (x3_1 : List Bool) (x4_1 : List Int) (x5_1 : Int), v5 = .int .i64 x5_1 ∧ Aside0 (spec_l18Reach.l0 kq x3_1 x4_1 x5_1 a0_0 a0_1 l0_2 l0_3 = some r) ∧ Aside0 (kq ≤ k) ∧ Aside0 (Kd.R Kd.bool 4 w' w.heap.size (fun _ => True) (.slice (some ⟨go5, 0, none⟩) y185.length co5) x3_1) ∧ Aside0 (Kd.R (Kd.int .i64) 3 w' w.heap.size (fun _ => True) v4 x4_1) ∧ Aside0 (w'.heap[gb184]? = some (.cells #[.int .i64 a0_0, .int .i64 a0_1, (.slice A0_2 l0_2.length c0_2), (.slice A0_3 l0_3.length c0_3)] 38 (0, 0))) ∧ Aside0 (Below w.heap.size w w'))
        case atStart => exact ⟨(y191), (y188), (0), (by first | rfl | (simp; done) | (simp [*]; done)), H', ⟨Nat.le_refl _⟩, ⟨by (with_reducible repeat (first | apply Kd.R_alloc | apply Kd.R_drewN | apply Kd.R_drew)); exact HO187.out⟩, ⟨by (with_reducible repeat (first | apply Kd.R_alloc | apply Kd.R_drewN | apply Kd.R_drew)); exact HO190.out⟩, ⟨by (with_reducible repeat (first | refine blk_drewN ?_ _ | refine blk_drew ?_ | refine blk_alloc ?_ _)); exact BK184.out⟩, ⟨by repeat (first | (with_reducible first | exact HB.out | apply below_alloc | apply pw_below_drewN | apply below_drew1 | refine below_set ?_ GE184.out) | exact HB.out)⟩⟩
        case round =>
          clear H'
          try clear c2
          try clear c2b0
          try clear c2b1
          try clear p2
          try clear c3
          try clear c3b0
          try clear c3b1
          try clear c4
          try clear c4b0
          try clear c4b1
          try clear p5
          try clear q5
          try clear hx5
          try clear qi5
          try clear hf5
          try clear c6
          try clear hcz7_0
          try clear hcz7_1
          try clear hcz7_2
          try clear hcz7_3
          try clear hfz7_0
          try clear hfz7_1
          try clear hfz7_2
          try clear hfz7_3
          try clear hx5_0
          try clear p5
          try clear q5
          obtain ⟨x3_1, x4_1, x5_1, rfl, HA, HK1, HO_3, HO_4, BK184, HB⟩ := hrel
          have hl3_1 := (Kd.R_reads' HO_3.out).1
          rw [hl3_1] at HO_3
          (try simp only [hl3_1])
          (try simp only [hl3_1] at BK184)
          (try simp only [hl3_1] at HO_4)
          cases gk with
          | zero => exact absurd HA.out (by simp [spec_l18Reach.l0])
          | succ k1 =>
            have H := HA.out
            clear HA
            simp only [spec_l18Reach.l0] at H
            by_cases c14 : x5_1 < (x4_1.length : Int)
            · rw [if_pos c14] at H
              have c14b0 : decide (x5_1 < (x4_1.length : Int)) = true := decide_eq_true c14
              clear c14
              by_cases c15 : 0 ≤ x5_1
              · rw [if_pos c15] at H
                have c15b0 : decide (0 ≤ x5_1) = true := decide_eq_true c15
                clear c15
                by_cases c16 : 0 ≤ (rd x4_1 x5_1)
                · rw [if_pos c16] at H
                  have c16b0 : decide (0 ≤ (rd x4_1 x5_1)) = true := decide_eq_true c16
                  clear c16
                  by_cases c17 : (rd x4_1 x5_1) < (l0_3.length : Int)
                  · rw [if_pos c17] at H
                    have c17b0 : decide ((rd x4_1 x5_1) < (l0_3.length : Int)) = true := decide_eq_true c17
                    clear c17
                    have HC18 := Aside0.mk H
                    clear H
                    obtain ⟨Ao19, co19, eo19⟩ := Kd.R_slice HO_4.out
                    subst eo19
                    try go_wp2
                    have n0_ := Aside0.mk (Kd.R_drew HO_3.out)
                    have n1_ := Aside0.mk (Kd.R_drew HO_4.out)
                    have n2_ := Aside0.mk (blk_drew BK184.out)
                    have n3_ := Aside0.mk (below_drew1 HB.out)
                    clear HO_3
                    clear HO_4
                    clear BK184
                    clear HB
                    have HO_3 := n0_
                    have HO_4 := n1_
                    have BK184 := n2_
                    have HB := n3_
                    clear n0_ n1_ n2_ n3_
                    have p192 : 0 ≤ (x5_1 : Int) := of_decide_eq_true (by first | (with_reducible assumption) | assumption)
                    have q192 : x5_1 < (x4_1.length : Int) := of_decide_eq_true (by first | (with_reducible assumption) | assumption)
                    obtain ⟨ad192, e192, hx192_0⟩ := Kd.at_int (Kd.R_reads' HO_4.out).2.2 x5_1 p192 q192
                    cases e192
                    replace p192 := eq_true p192
                    replace q192 := eq_true q192
                    have p193 : 0 ≤ ((rd x4_1 x5_1) : Int) := of_decide_eq_true (by first | (with_reducible assumption) | assumption)
                    have q193 : (rd x4_1 x5_1) < (l0_3.length : Int) := of_decide_eq_true (by first | (with_reducible assumption) | assumption)
                    obtain ⟨ad193, e193, hx193_0, hx193_1⟩ := at_T73 HR0_3.out (rd x4_1 x5_1) p193 q193
                    have hw193_1 := hx193_1
                    have hw193_0 := hx193_0
                    cases e193
                    replace hx193_0 := (HB.out.cell (World.block_lt_of_cell? w _ hx193_0)).trans hx193_0
                    replace hx193_1 := (HB.out.cell (World.block_lt_of_cell? w _ hx193_1)).trans hx193_1
                    replace p193 := eq_true p193
                    replace q193 := eq_true q193
                    refine start_ (n := 10) (S := fun w' => w'.cell? ⟨gb184, 0, none⟩ = some (.int .i64 a0_0) ∧ w'.cell? ⟨gb184, 1, none⟩ = some (.int .i64 a0_1) ∧ w'.cell? ⟨gb184, 2, none⟩ = some (.slice A0_2 l0_2.length c0_2) ∧ w'.cell? ⟨gb184, 3, none⟩ = some (.slice (some ad193) l0_3.length c0_3) ∧ w'.cell? (ad192.add (x5_1).toNat) = some (.int .i64 (rd x4_1 x5_1)) ∧ w'.cell? (ad193.add (((rd x4_1 x5_1)).toNat * 2)) = some (.int .i64 ((rd_T73 l0_3 (rd x4_1 x5_1)).f0)) ∧ w'.cell? ⟨(ad193.add (((rd x4_1 x5_1)).toNat * 2)).block, (ad193.add (((rd x4_1 x5_1)).toNat * 2)).off + 1, none⟩ = some (.int .i64 ((rd_T73 l0_3 (rd x4_1 x5_1)).f1))) (ds := []) #[false, false, false, false, false, false, false, false, false, false] (by kernel_rfl) rfl rfl ⟨(blk_cell BK184.out 0).trans rfl, (blk_cell BK184.out 1).trans rfl, (blk_cell BK184.out 2).trans rfl, (blk_cell BK184.out 3).trans rfl, hx192_0, ((HB.out.cell (World.block_lt_of_cell? w _ hw193_0)).trans hw193_0), ((HB.out.cell (World.block_lt_of_cell? w _ hw193_1)).trans hw193_1)⟩ (fun hHeld => ?_); refine with_tabW spec_l18Reach.tab7 spec_l18Reach.bits7 (fun HT_ HW_ => ?_)
                    generalize wr.drew = w20 at HO_3 HO_4 BK184 HB hx192_0 hx193_0 hx193_1 hHeld ⊢
                    refine pure_ (i := 0) (N := some 21) (v := ?_) (a' := ?_) #[true, false, false, false, false, false, false, false, false, false] rfl rfl (any_of HT_.out (by kernel_rfl)) (fun _ _ _ h => h) (Or.inl ⟨by rfl, ?_⟩) ?_ ?_
                    rotate_left
                    · intro w'
                      go_simp
                      with_reducible rfl
                    rotate_left
                    · simp only [Act.put, List.setIfInBounds_toArray, List.set_cons_zero, List.set_cons_succ, i64_w, i32_w]
                      rfl
                    refine pure_ (i := 2) (N := some 23) (v := ?_) (a' := ?_) #[true, false, true, false, false, false, false, false, false, false] rfl rfl (any_of HT_.out (by kernel_rfl)) (fun _ _ _ h => h) (Or.inl ⟨by rfl, ?_⟩) ?_ ?_
                    rotate_left
                    · intro w'
                      go_simp
                      with_reducible rfl
                    rotate_left
                    · simp only [Act.put, List.setIfInBounds_toArray, List.set_cons_zero, List.set_cons_succ, i64_w, i32_w]
                      rfl
                    refine pure_ (i := 3) (N := some 24) (v := ?_) (a' := ?_) #[true, false, true, true, false, false, false, false, false, false] rfl rfl (any_of HT_.out (by kernel_rfl)) (fun _ _ _ h => h) (Or.inl ⟨by rfl, ?_⟩) ?_ ?_
                    rotate_left
                    · intro w'
                      go_simp
                      with_reducible rfl
                    rotate_left
                    · simp only [Act.put, List.setIfInBounds_toArray, List.set_cons_zero, List.set_cons_succ, i64_w, i32_w]
                      rfl
                    refine pure_ (i := 4) (N := some 25) (v := ?_) (a' := ?_) #[true, false, true, true, true, false, false, false, false, false] rfl rfl (any_of HT_.out (by kernel_rfl)) (fun _ _ _ h => h) (Or.inl ⟨by rfl, ?_⟩) ?_ ?_
                    rotate_left
                    · intro w'
                      go_simp
                      with_reducible rfl
                    rotate_left
                    · simp only [Act.put, List.setIfInBounds_toArray, List.set_cons_zero, List.set_cons_succ, i64_w, i32_w]
                      rfl
                    refine take_ (i := 1) (N := some 22) (v := ?_) (a' := ?_) #[true, true, true, true, true, false, false, false, false, false] rfl rfl (take_ofW HT_.out HW_.out (by kernel_rfl)) (fun _ _ _ h => h) (Or.inl ⟨by rfl, ?_⟩) hHeld ?_ ?_
                    rotate_left
                    · rintro w' ⟨s0, s1, s2, s3, s4, s5, s6⟩
                      go_simp
                      with_reducible rfl
                    rotate_left
                    · simp only [Act.put, List.setIfInBounds_toArray, List.set_cons_zero, List.set_cons_succ, i64_w, i32_w]
                      rfl
                    refine take_ (i := 5) (N := some 26) (v := ?_) (a' := ?_) #[true, true, true, true, true, true, false, false, false, false] rfl rfl (take_ofW HT_.out HW_.out (by kernel_rfl)) (fun _ _ _ h => h) (Or.inl ⟨by rfl, ?_⟩) hHeld ?_ ?_
                    rotate_left
                    · rintro w' ⟨s0, s1, s2, s3, s4, s5, s6⟩
                      go_simp
                      with_reducible rfl
                    rotate_left
                    · simp only [Act.put, List.setIfInBounds_toArray, List.set_cons_zero, List.set_cons_succ, i64_w, i32_w]
                      rfl
                    refine pure_ (i := 6) (N := some 27) (v := ?_) (a' := ?_) #[true, true, true, true, true, true, true, false, false, false] rfl rfl (any_of HT_.out (by kernel_rfl)) (fun _ _ _ h => h) (Or.inl ⟨by rfl, ?_⟩) ?_ ?_
                    rotate_left
                    · intro w'
                      go_simp
                      with_reducible rfl
                    rotate_left
                    · simp only [Act.put, List.setIfInBounds_toArray, List.set_cons_zero, List.set_cons_succ, i64_w, i32_w]
                      rfl
                    refine take_ (i := 7) (N := some 28) (v := ?_) (a' := ?_) #[true, true, true, true, true, true, true, true, false, false] rfl rfl (take_ofW HT_.out HW_.out (by kernel_rfl)) (fun _ _ _ h => h) (Or.inl ⟨by rfl, ?_⟩) hHeld ?_ ?_
                    rotate_left
                    · rintro w' ⟨s0, s1, s2, s3, s4, s5, s6⟩
                      go_simp
                      with_reducible rfl
                    rotate_left
                    · simp only [Act.put, List.setIfInBounds_toArray, List.set_cons_zero, List.set_cons_succ, i64_w, i32_w]
                      rfl
                    refine one_ (i := 8) (N := some 6) #[true, true, true, true, true, true, true, true, true, false] rfl rfl (one_of HT_.out (by kernel_rfl)) (by decide) (fun K hK => ?_)
                    refine box_step ?hg (N := 6) ?hd (cs := #[.int .i64 0, .int .i64 0]) (t := 73) ?hr ?_; (case hd => rfl); (case hg => rfl); (case hr => first | (go_simp; done) | (go_simp; rfl))
                    intro gb194 hg w21 hbox hb
                    have HS4_ := (hb.cell (World.block_lt_of_cell? _ _ (hHeld.2.2.2.2.1))).trans (hHeld.2.2.2.2.1)
                    have n0_ := Aside0.mk (Kd.R_below (by (with_reducible repeat (first | apply Kd.R_alloc | apply Kd.R_drewN | apply Kd.R_drew)); exact HO_3.out) hb)
                    have n1_ := Aside0.mk (Kd.R_below (by (with_reducible repeat (first | apply Kd.R_alloc | apply Kd.R_drewN | apply Kd.R_drew)); exact HO_4.out) hb)
                    have n2_ := Aside0.mk (blk_below (g := gb184) (o := .cells #[.int .i64 a0_0, .int .i64 a0_1, .slice A0_2 l0_2.length c0_2, .slice (some ad193) l0_3.length c0_3] 38 (0, 0)) (by (with_reducible repeat (first | refine blk_drewN ?_ _ | refine blk_drew ?_ | refine blk_alloc ?_ _)); exact BK184.out) hb)
                    have n3_ := Aside0.mk (below_step (by repeat (first | (with_reducible first | exact HB.out | apply below_alloc | apply pw_below_drewN | apply below_drew1 | refine below_set ?_ GE184.out) | exact HB.out)) hb)
                    have n4_ := Aside0.mk (hbox)
                    have n5_ := Aside0.mk ((by rw [hg]; exact (below_size (by repeat (first | (with_reducible first | exact HB.out | apply below_alloc | apply pw_below_drewN | apply below_drew1 | refine below_set ?_ GE184.out) | exact HB.out))) : w.heap.size ≤ gb194))
                    have n6_ := Aside0.mk ((by rw [hg]; exact (below_size (by repeat (first | (with_reducible first | exact HB.out | apply below_alloc | apply pw_below_drewN | apply below_drew1 | refine below_set ?_ GE184.out) | exact HB.out))) : w.heap.size ≤ gb194))
                    have n7_ := Aside0.mk ((by rw [hg]; exact Nat.ne_of_lt (blk_lt (g := gb184) (o := .cells #[.int .i64 a0_0, .int .i64 a0_1, .slice A0_2 l0_2.length c0_2, .slice (some ad193) l0_3.length c0_3] 38 (0, 0)) (by (with_reducible repeat (first | refine blk_drewN ?_ _ | refine blk_drew ?_ | refine blk_alloc ?_ _)); exact BK184.out)) : gb184 ≠ gb194))
                    have n8_ := Aside0.mk ((by rw [hg]; exact Nat.ne_of_gt (blk_lt (g := gb184) (o := .cells #[.int .i64 a0_0, .int .i64 a0_1, .slice A0_2 l0_2.length c0_2, .slice (some ad193) l0_3.length c0_3] 38 (0, 0)) (by (with_reducible repeat (first | refine blk_drewN ?_ _ | refine blk_drew ?_ | refine blk_alloc ?_ _)); exact BK184.out)) : gb194 ≠ gb184))
                    clear HO_3
                    clear HO_4
                    clear BK184
                    clear HB
                    have HO_3 := n0_
                    have HO_4 := n1_
                    have BK184 := n2_
                    have HB := n3_
                    have BK194 := n4_
                    have GW194 := n5_
                    have GE194 := n6_
                    have NB184_194 := n7_
                    have NB194_184 := n8_
                    clear n0_ n1_ n2_ n3_ n4_ n5_ n6_ n7_ n8_
                    clear hb hbox hg
                    refine hK.out _ _ ⟨(blk_cell BK184.out 0).trans rfl, (blk_cell BK184.out 1).trans rfl, (blk_cell BK184.out 2).trans rfl, (blk_cell BK184.out 3).trans rfl, HS4_, ((HB.out.cell (World.block_lt_of_cell? w _ hw193_0)).trans hw193_0), ((HB.out.cell (World.block_lt_of_cell? w _ hw193_1)).trans hw193_1)⟩ (fun hHeld => ?_)
                    clear hK K
                    refine norm_ (a' := ?_) ?_ ?_
                    rotate_left
                    · show Act.put _ (some 6) _ = _
                      simp only [Act.put, List.setIfInBounds_toArray, List.set_cons_zero, List.set_cons_succ, i64_w, i32_w]
                      rfl
                    refine one_ (i := 9) (N := none) #[true, true, true, true, true, true, true, true, true, true] rfl rfl (one_of HT_.out (by kernel_rfl)) (by decide) (fun K hK => ?_)
                    have hs22 : w21.cell? ⟨gb194, 0, none⟩ = some (.int .i64 0) := (blk_cell BK194.out 0).trans rfl
                    have hfs22 := blk_frozen BK194.out 0
                    have hns22_0 := NB184_194.out
                    have hms22_0 := NB194_184.out
                    have hs23 : w21.cell? ⟨gb194, 1, none⟩ = some (.int .i64 0) := (blk_cell BK194.out 1).trans rfl
                    have hfs23 := blk_frozen BK194.out 1
                    have hns23_0 := NB184_194.out
                    have hms23_0 := NB194_184.out
                    refine skip_ (w1 := ?_) (by rfl) rfl ?_ ?_
                    rotate_left
                    · go_simp
                      rfl
                    refine hK.out _ _ ⟨((cell_far (p := ⟨gb194, _, none⟩) NB184_194.out _).trans (((cell_far (p := ⟨gb194, _, none⟩) NB184_194.out _).trans (hHeld.1)))), ((cell_far (p := ⟨gb194, _, none⟩) NB184_194.out _).trans (((cell_far (p := ⟨gb194, _, none⟩) NB184_194.out _).trans (hHeld.2.1)))), ((cell_far (p := ⟨gb194, _, none⟩) NB184_194.out _).trans (((cell_far (p := ⟨gb194, _, none⟩) NB184_194.out _).trans (hHeld.2.2.1)))), ((cell_far (p := ⟨gb194, _, none⟩) NB184_194.out _).trans (((cell_far (p := ⟨gb194, _, none⟩) NB184_194.out _).trans (hHeld.2.2.2.1)))), ((cell_far (p := ⟨gb194, _, none⟩) (by first | exact Kd.own_blk (Kd.R_ne HO_4.out BK194.out (by decide)) | (rw [add_block]; exact Kd.own_blk (Kd.R_ne HO_4.out BK194.out (by decide))) | (show (Addr.add _ _).block ≠ _; rw [add_block]; exact Kd.own_blk (Kd.R_ne HO_4.out BK194.out (by decide))) | (dsimp only; exact Kd.own_blk (Kd.R_ne HO_4.out BK194.out (by decide)))) _).trans (((cell_far (p := ⟨gb194, _, none⟩) (by first | exact Kd.own_blk (Kd.R_ne HO_4.out BK194.out (by decide)) | (rw [add_block]; exact Kd.own_blk (Kd.R_ne HO_4.out BK194.out (by decide))) | (show (Addr.add _ _).block ≠ _; rw [add_block]; exact Kd.own_blk (Kd.R_ne HO_4.out BK194.out (by decide))) | (dsimp only; exact Kd.own_blk (Kd.R_ne HO_4.out BK194.out (by decide)))) _).trans (hHeld.2.2.2.2.1)))), ((cell_far (p := ⟨gb194, _, none⟩) (by first | exact Nat.ne_of_lt (Nat.lt_of_lt_of_le (by have := World.block_lt_of_cell? _ _ hw193_0; first | rwa [add_block] at this | exact this) GW194.out) | (rw [add_block]; exact Nat.ne_of_lt (Nat.lt_of_lt_of_le (by have := World.block_lt_of_cell? _ _ hw193_0; first | rwa [add_block] at this | exact this) GW194.out)) | (show (Addr.add _ _).block ≠ _; rw [add_block]; exact Nat.ne_of_lt (Nat.lt_of_lt_of_le (by have := World.block_lt_of_cell? _ _ hw193_0; first | rwa [add_block] at this | exact this) GW194.out)) | (dsimp only; exact Nat.ne_of_lt (Nat.lt_of_lt_of_le (by have := World.block_lt_of_cell? _ _ hw193_0; first | rwa [add_block] at this | exact this) GW194.out))) _).trans (((cell_far (p := ⟨gb194, _, none⟩) (by first | exact Nat.ne_of_lt (Nat.lt_of_lt_of_le (by have := World.block_lt_of_cell? _ _ hw193_0; first | rwa [add_block] at this | exact this) GW194.out) | (rw [add_block]; exact Nat.ne_of_lt (Nat.lt_of_lt_of_le (by have := World.block_lt_of_cell? _ _ hw193_0; first | rwa [add_block] at this | exact this) GW194.out)) | (show (Addr.add _ _).block ≠ _; rw [add_block]; exact Nat.ne_of_lt (Nat.lt_of_lt_of_le (by have := World.block_lt_of_cell? _ _ hw193_0; first | rwa [add_block] at this | exact this) GW194.out)) | (dsimp only; exact Nat.ne_of_lt (Nat.lt_of_lt_of_le (by have := World.block_lt_of_cell? _ _ hw193_0; first | rwa [add_block] at this | exact this) GW194.out))) _).trans (hHeld.2.2.2.2.2.1)))), ((cell_far (p := ⟨gb194, _, none⟩) (by first | exact Nat.ne_of_lt (Nat.lt_of_lt_of_le (by have := World.block_lt_of_cell? _ _ hw193_1; first | rwa [add_block] at this | exact this) GW194.out) | (rw [add_block]; exact Nat.ne_of_lt (Nat.lt_of_lt_of_le (by have := World.block_lt_of_cell? _ _ hw193_1; first | rwa [add_block] at this | exact this) GW194.out)) | (show (Addr.add _ _).block ≠ _; rw [add_block]; exact Nat.ne_of_lt (Nat.lt_of_lt_of_le (by have := World.block_lt_of_cell? _ _ hw193_1; first | rwa [add_block] at this | exact this) GW194.out)) | (dsimp only; exact Nat.ne_of_lt (Nat.lt_of_lt_of_le (by have := World.block_lt_of_cell? _ _ hw193_1; first | rwa [add_block] at this | exact this) GW194.out))) _).trans (((cell_far (p := ⟨gb194, _, none⟩) (by first | exact Nat.ne_of_lt (Nat.lt_of_lt_of_le (by have := World.block_lt_of_cell? _ _ hw193_1; first | rwa [add_block] at this | exact this) GW194.out) | (rw [add_block]; exact Nat.ne_of_lt (Nat.lt_of_lt_of_le (by have := World.block_lt_of_cell? _ _ hw193_1; first | rwa [add_block] at this | exact this) GW194.out)) | (show (Addr.add _ _).block ≠ _; rw [add_block]; exact Nat.ne_of_lt (Nat.lt_of_lt_of_le (by have := World.block_lt_of_cell? _ _ hw193_1; first | rwa [add_block] at this | exact this) GW194.out)) | (dsimp only; exact Nat.ne_of_lt (Nat.lt_of_lt_of_le (by have := World.block_lt_of_cell? _ _ hw193_1; first | rwa [add_block] at this | exact this) GW194.out))) _).trans (hHeld.2.2.2.2.2.2))))⟩ (fun hHeld => ?_)
                    clear hK K
                    refine done_ (done_of HT_.out (by kernel_rfl)) ?_
                    have p195 : 0 ≤ (x5_1 : Int) := of_decide_eq_true (by first | (with_reducible assumption) | assumption)
                    have q195 : x5_1 < (x4_1.length : Int) := of_decide_eq_true (by first | (with_reducible assumption) | assumption)
                    obtain ⟨ad195, e195, hx195_0⟩ := Kd.at_int (Kd.R_reads' HO_4.out).2.2 x5_1 p195 q195
                    obtain rfl : ad192 = ad195 := (by injection e195)
                    have hn195_0 : ad192.block ≠ gb194 := Kd.own_blk (Kd.R_ne HO_4.out BK194.out (by decide))
                    have hn195_1 : ad192.block ≠ gb194 := Kd.own_blk (Kd.R_ne HO_4.out BK194.out (by decide))
                    replace hx195_0 := (cell_far (p := ⟨gb194, 0, none⟩) (by first | (rw [add_block]; exact hn195_0) | (show (Addr.add _ _).block ≠ _; rw [add_block]; exact hn195_0) | exact hn195_0) (.int .i64 ((rd_T73 l0_3 (rd x4_1 x5_1)).f0))).trans hx195_0
                    replace hx195_0 := (cell_far (p := ⟨gb194, 1, none⟩) (by first | (rw [add_block]; exact hn195_1) | (show (Addr.add _ _).block ≠ _; rw [add_block]; exact hn195_1) | exact hn195_1) (.int .i64 ((rd_T73 l0_3 (rd x4_1 x5_1)).f1))).trans hx195_0
                    clear hn195_0
                    clear hn195_1
                    replace p195 := eq_true p195
                    replace q195 := eq_true q195
                    go_upto_region 9 with (fail)
                    go_cut [55] (fun v55 wc => ∃ (kq : Nat) (x55_17 : Bool), v55 = .bool x55_17 ∧ Aside0 (spec_l18Reach.j1 kq x3_1 x4_1 x5_1 (wrap64 ((rd x4_1 x5_1) + 1)) x55_17 a0_0 a0_1 l0_2 l0_3 ((rd_T73 l0_3 (rd x4_1 x5_1)).f0) ((rd_T73 l0_3 (rd x4_1 x5_1)).f1) = some r) ∧ Aside0 (kq ≤ k1) ∧ Aside0 (Kd.R Kd.bool 4 wc w.heap.size (fun _ => True) (.slice (some ⟨go5, 0, none⟩) x3_1.length co5) x3_1) ∧ Aside0 (Kd.R (Kd.int .i64) 3 wc w.heap.size (fun _ => True) (.slice (some ad192) x4_1.length co19) x4_1) ∧ Aside0 (wc.heap[gb184]? = some (.cells #[.int .i64 a0_0, .int .i64 a0_1, (.slice A0_2 l0_2.length c0_2), (.slice (some ad193) l0_3.length c0_3)] 38 (0, 0))) ∧ Aside0 (wc.heap[gb194]? = some (.cells #[.int .i64 ((rd_T73 l0_3 (rd x4_1 x5_1)).f0), .int .i64 ((rd_T73 l0_3 (rd x4_1 x5_1)).f1)] 73 (0, 0))) ∧ Aside0 (Below w.heap.size w wc))
                    case first =>
                      have H := HC18.out
                      clear HC18
                      by_cases c24 : ((rd_T73 l0_3 (rd x4_1 x5_1)).f0) = 18
                      · rw [if_pos c24] at H
                        have c24b0 : (((rd_T73 l0_3 (rd x4_1 x5_1)).f0) == 18) = true := beq_iff_eq.mpr c24
                        have c24b1 : (((rd_T73 l0_3 (rd x4_1 x5_1)).f0) != 18) = false := bne_eq_false_iff_eq.mpr c24
                        clear c24
                        (first | rw [c24b0] | (simp only [i64_w, i32_w]; rw [c24b0]) | skip)
                        have H' := Aside0.mk H
                        clear H
                        have hnb25 := NB194_184.out
                        have hnc25 := NB184_194.out
                        have hcz26_0 : w21.cell? ⟨gb194, 0, none⟩ = some (.int .i64 0) := (blk_cell BK194.out 0).trans rfl
                        have hcz26_1 : w21.cell? ⟨gb194, 1, none⟩ = some (.int .i64 0) := (blk_cell BK194.out 1).trans rfl
                        have hfz26_0 := blk_frozen BK194.out 0
                        have hfz26_1 := blk_frozen BK194.out 1
                        go_wp2
                        go_meet
                        case rel => exact ⟨_, (false), (by first | rfl | (simp; done) | (simp [*]; done)), H', ⟨by have := HK1.out; first | omega | exact Nat.le_refl _⟩, ⟨by (try simp only [hl3_1]); (with_reducible repeat (first | apply Kd.R_alloc | apply Kd.R_drewN | apply Kd.R_drew)); exact Kd.R_mono (Kd.R_far (p := ⟨gb194, 1, none⟩) (Kd.R_far (p := ⟨gb194, 0, none⟩) (Kd.R_types HO_3.out BK194.out (by decide)) (fun _ hk => hk.2) (.int .i64 ((rd_T73 l0_3 (rd x4_1 x5_1)).f0))) (fun _ hk => hk.2) (.int .i64 ((rd_T73 l0_3 (rd x4_1 x5_1)).f1))) (fun _ hk => trivial)⟩, ⟨by (try simp only [hl3_1]); (with_reducible repeat (first | apply Kd.R_alloc | apply Kd.R_drewN | apply Kd.R_drew)); exact Kd.R_mono (Kd.R_far (p := ⟨gb194, 1, none⟩) (Kd.R_far (p := ⟨gb194, 0, none⟩) (Kd.R_types HO_4.out BK194.out (by decide)) (fun _ hk => hk.2) (.int .i64 ((rd_T73 l0_3 (rd x4_1 x5_1)).f0))) (fun _ hk => hk.2) (.int .i64 ((rd_T73 l0_3 (rd x4_1 x5_1)).f1))) (fun _ hk => trivial)⟩, ⟨by (try simp only [hl3_1]); (with_reducible repeat (first | refine blk_drewN ?_ _ | refine blk_drew ?_ | refine blk_alloc ?_ _)); refine blk_far ?_ NB184_194.out _; (with_reducible repeat (first | refine blk_drewN ?_ _ | refine blk_drew ?_ | refine blk_alloc ?_ _)); refine blk_far ?_ NB184_194.out _; (with_reducible repeat (first | refine blk_drewN ?_ _ | refine blk_drew ?_ | refine blk_alloc ?_ _)); exact BK184.out⟩, ⟨by (try simp only [hl3_1]); (with_reducible repeat (first | refine blk_drewN ?_ _ | refine blk_drew ?_ | refine blk_alloc ?_ _)); refine blk_put (cs := #[.int .i64 ((rd_T73 l0_3 (rd x4_1 x5_1)).f0), .int .i64 0]) ?_ 1 _ rfl; (with_reducible repeat (first | refine blk_drewN ?_ _ | refine blk_drew ?_ | refine blk_alloc ?_ _)); refine blk_put (cs := #[.int .i64 0, .int .i64 0]) ?_ 0 _ rfl; (with_reducible repeat (first | refine blk_drewN ?_ _ | refine blk_drew ?_ | refine blk_alloc ?_ _)); exact BK194.out⟩, ⟨by repeat (first | (with_reducible first | exact HB.out | apply below_alloc | apply pw_below_drewN | apply below_drew1 | refine below_set ?_ GE184.out | refine below_set ?_ GE194.out) | exact HB.out)⟩⟩
                      · rw [if_neg c24] at H
                        have c24b0 : (((rd_T73 l0_3 (rd x4_1 x5_1)).f0) == 18) = false := beq_eq_false_iff_ne.mpr c24
                        have c24b1 : (((rd_T73 l0_3 (rd x4_1 x5_1)).f0) != 18) = true := bne_iff_ne.mpr c24
                        (first | rw [c24b0] | (simp only [i64_w, i32_w]; rw [c24b0]) | skip)
                        by_cases c27 : ((rd_T73 l0_3 (rd x4_1 x5_1)).f0) = 24
                        · rw [if_pos c27] at H
                          have c27b0 : (((rd_T73 l0_3 (rd x4_1 x5_1)).f0) == 24) = true := beq_iff_eq.mpr c27
                          have c27b1 : (((rd_T73 l0_3 (rd x4_1 x5_1)).f0) != 24) = false := bne_eq_false_iff_eq.mpr c27
                          clear c27
                          have H' := Aside0.mk H
                          clear H
                          have hnb28 := NB194_184.out
                          have hnc28 := NB184_194.out
                          have hcz29_0 : w21.cell? ⟨gb194, 0, none⟩ = some (.int .i64 0) := (blk_cell BK194.out 0).trans rfl
                          have hcz29_1 : w21.cell? ⟨gb194, 1, none⟩ = some (.int .i64 0) := (blk_cell BK194.out 1).trans rfl
                          have hfz29_0 := blk_frozen BK194.out 0
                          have hfz29_1 := blk_frozen BK194.out 1
                          go_wp2
                          go_meet
                          case rel => exact ⟨_, (false), (by first | rfl | (simp; done) | (simp [*]; done)), H', ⟨by have := HK1.out; first | omega | exact Nat.le_refl _⟩, ⟨by (try simp only [hl3_1]); (with_reducible repeat (first | apply Kd.R_alloc | apply Kd.R_drewN | apply Kd.R_drew)); exact Kd.R_mono (Kd.R_far (p := ⟨gb194, 1, none⟩) (Kd.R_far (p := ⟨gb194, 0, none⟩) (Kd.R_types HO_3.out BK194.out (by decide)) (fun _ hk => hk.2) (.int .i64 ((rd_T73 l0_3 (rd x4_1 x5_1)).f0))) (fun _ hk => hk.2) (.int .i64 ((rd_T73 l0_3 (rd x4_1 x5_1)).f1))) (fun _ hk => trivial)⟩, ⟨by (try simp only [hl3_1]); (with_reducible repeat (first | apply Kd.R_alloc | apply Kd.R_drewN | apply Kd.R_drew)); exact Kd.R_mono (Kd.R_far (p := ⟨gb194, 1, none⟩) (Kd.R_far (p := ⟨gb194, 0, none⟩) (Kd.R_types HO_4.out BK194.out (by decide)) (fun _ hk => hk.2) (.int .i64 ((rd_T73 l0_3 (rd x4_1 x5_1)).f0))) (fun _ hk => hk.2) (.int .i64 ((rd_T73 l0_3 (rd x4_1 x5_1)).f1))) (fun _ hk => trivial)⟩, ⟨by (try simp only [hl3_1]); (with_reducible repeat (first | refine blk_drewN ?_ _ | refine blk_drew ?_ | refine blk_alloc ?_ _)); refine blk_far ?_ NB184_194.out _; (with_reducible repeat (first | refine blk_drewN ?_ _ | refine blk_drew ?_ | refine blk_alloc ?_ _)); refine blk_far ?_ NB184_194.out _; (with_reducible repeat (first | refine blk_drewN ?_ _ | refine blk_drew ?_ | refine blk_alloc ?_ _)); exact BK184.out⟩, ⟨by (try simp only [hl3_1]); (with_reducible repeat (first | refine blk_drewN ?_ _ | refine blk_drew ?_ | refine blk_alloc ?_ _)); refine blk_put (cs := #[.int .i64 ((rd_T73 l0_3 (rd x4_1 x5_1)).f0), .int .i64 0]) ?_ 1 _ rfl; (with_reducible repeat (first | refine blk_drewN ?_ _ | refine blk_drew ?_ | refine blk_alloc ?_ _)); refine blk_put (cs := #[.int .i64 0, .int .i64 0]) ?_ 0 _ rfl; (with_reducible repeat (first | refine blk_drewN ?_ _ | refine blk_drew ?_ | refine blk_alloc ?_ _)); exact BK194.out⟩, ⟨by repeat (first | (with_reducible first | exact HB.out | apply below_alloc | apply pw_below_drewN | apply below_drew1 | refine below_set ?_ GE184.out | refine below_set ?_ GE194.out) | exact HB.out)⟩⟩
                        · rw [if_neg c27] at H
                          have c27b0 : (((rd_T73 l0_3 (rd x4_1 x5_1)).f0) == 24) = false := beq_eq_false_iff_ne.mpr c27
                          have c27b1 : (((rd_T73 l0_3 (rd x4_1 x5_1)).f0) != 24) = true := bne_iff_ne.mpr c27
                          by_cases c30 : (wrap64 ((rd x4_1 x5_1) + 1)) < (l0_3.length : Int)
                          · rw [if_pos c30] at H
                            have c30b0 : decide ((wrap64 ((rd x4_1 x5_1) + 1)) < (l0_3.length : Int)) = true := decide_eq_true c30
                            clear c30
                            obtain ⟨ji31, hji31⟩ : ∃ j_ : Int, (wrap64 ((rd x4_1 x5_1) + 1)) = j_ := ⟨_, rfl⟩
                            replace H : (if 0 ≤ (ji31) then (if (ji31) < (x3_1.length : Int) then (spec_l18Reach.j1 k1 x3_1 x4_1 x5_1 ji31 (!(rdOf false x3_1 (ji31))) a0_0 a0_1 l0_2 l0_3 ((rd_T73 l0_3 (rd x4_1 x5_1)).f0) ((rd_T73 l0_3 (rd x4_1 x5_1)).f1)) else (none)) else (none)) = some r := by first | (rw [hji31] at H; exact H) | (simp only [hji31] at H ⊢; exact H)
                            (try rw [hji31] at c30b0)
                            have hji31w : (IntKind.i64.wrap ((rd x4_1 x5_1) + 1)) = ji31 := (i64_w _).trans hji31
                            by_cases c32 : 0 ≤ (ji31)
                            · rw [if_pos c32] at H
                              have c32b0 : decide (0 ≤ (ji31)) = true := decide_eq_true c32
                              clear c32
                              by_cases c33 : (ji31) < (x3_1.length : Int)
                              · rw [if_pos c33] at H
                                have c33b0 : decide ((ji31) < (x3_1.length : Int)) = true := decide_eq_true c33
                                clear c33
                                have H' := Aside0.mk H
                                clear H
                                have hnb34 := NB194_184.out
                                have hnc34 := NB184_194.out
                                have hcz35_0 : w21.cell? ⟨gb194, 0, none⟩ = some (.int .i64 0) := (blk_cell BK194.out 0).trans rfl
                                have hcz35_1 : w21.cell? ⟨gb194, 1, none⟩ = some (.int .i64 0) := (blk_cell BK194.out 1).trans rfl
                                have hfz35_0 := blk_frozen BK194.out 0
                                have hfz35_1 := blk_frozen BK194.out 1
                                have hcz36_0 : w21.cell? ⟨gb184, 0, none⟩ = some (.int .i64 a0_0) := (blk_cell BK184.out 0).trans rfl
                                have hcz36_1 : w21.cell? ⟨gb184, 1, none⟩ = some (.int .i64 a0_1) := (blk_cell BK184.out 1).trans rfl
                                have hcz36_2 : w21.cell? ⟨gb184, 2, none⟩ = some (.slice A0_2 l0_2.length c0_2) := (blk_cell BK184.out 2).trans rfl
                                have hcz36_3 : w21.cell? ⟨gb184, 3, none⟩ = some (.slice (some ad193) l0_3.length c0_3) := (blk_cell BK184.out 3).trans rfl
                                have hfz36_0 := blk_frozen BK184.out 0
                                have hfz36_1 := blk_frozen BK184.out 1
                                have hfz36_2 := blk_frozen BK184.out 2
                                have hfz36_3 := blk_frozen BK184.out 3
                                have p196 : 0 ≤ ((ji31) : Int) := of_decide_eq_true (by first | (with_reducible assumption) | assumption)
                                have q196 : (ji31) < (x3_1.length : Int) := of_decide_eq_true (by first | (with_reducible assumption) | assumption)
                                obtain ⟨ad196, e196, hx196_0⟩ := Kd.at_bool (Kd.R_reads' HO_3.out).2.2 (ji31) p196 q196
                                obtain rfl : (⟨go5, 0, none⟩ : Addr) = ad196 := (by injection e196)
                                (first | simp only [add_plain] at hx196_0 | simp only [add_at] at hx196_0 | simp only [Addr.add, Nat.zero_add] at hx196_0 | skip)
                                have hn196_0 : (⟨go5, 0, none⟩ : Addr).block ≠ gb194 := Kd.own_blk (Kd.R_ne HO_3.out BK194.out (by decide))
                                have hn196_1 : (⟨go5, 0, none⟩ : Addr).block ≠ gb194 := Kd.own_blk (Kd.R_ne HO_3.out BK194.out (by decide))
                                replace hx196_0 := (cell_far (p := ⟨gb194, 0, none⟩) (by first | (rw [add_block]; exact hn196_0) | (show (Addr.add _ _).block ≠ _; rw [add_block]; exact hn196_0) | exact hn196_0) (.int .i64 ((rd_T73 l0_3 (rd x4_1 x5_1)).f0))).trans hx196_0
                                replace hx196_0 := (cell_far (p := ⟨gb194, 1, none⟩) (by first | (rw [add_block]; exact hn196_1) | (show (Addr.add _ _).block ≠ _; rw [add_block]; exact hn196_1) | exact hn196_1) (.int .i64 ((rd_T73 l0_3 (rd x4_1 x5_1)).f1))).trans hx196_0
                                clear hn196_0
                                clear hn196_1
                                replace p196 := eq_true p196
                                replace q196 := eq_true q196
                                go_wp2
                                (try subst hji31)
                                go_meet
                                case rel => exact ⟨_, (!(rdOf false x3_1 ((wrap64 ((rd x4_1 x5_1) + 1))))), (by first | rfl | (simp; done) | (simp only [← hji31] <;> (first | rfl | simp)) | (simp [*]; done)), H', ⟨by have := HK1.out; first | omega | exact Nat.le_refl _⟩, ⟨by (try simp only [hl3_1]); (with_reducible repeat (first | apply Kd.R_alloc | apply Kd.R_drewN | apply Kd.R_drew)); exact Kd.R_mono (Kd.R_far (p := ⟨gb194, 1, none⟩) (Kd.R_far (p := ⟨gb194, 0, none⟩) (Kd.R_types HO_3.out BK194.out (by decide)) (fun _ hk => hk.2) (.int .i64 ((rd_T73 l0_3 (rd x4_1 x5_1)).f0))) (fun _ hk => hk.2) (.int .i64 ((rd_T73 l0_3 (rd x4_1 x5_1)).f1))) (fun _ hk => trivial)⟩, ⟨by (try simp only [hl3_1]); (with_reducible repeat (first | apply Kd.R_alloc | apply Kd.R_drewN | apply Kd.R_drew)); exact Kd.R_mono (Kd.R_far (p := ⟨gb194, 1, none⟩) (Kd.R_far (p := ⟨gb194, 0, none⟩) (Kd.R_types HO_4.out BK194.out (by decide)) (fun _ hk => hk.2) (.int .i64 ((rd_T73 l0_3 (rd x4_1 x5_1)).f0))) (fun _ hk => hk.2) (.int .i64 ((rd_T73 l0_3 (rd x4_1 x5_1)).f1))) (fun _ hk => trivial)⟩, ⟨by (try simp only [hl3_1]); (with_reducible repeat (first | refine blk_drewN ?_ _ | refine blk_drew ?_ | refine blk_alloc ?_ _)); refine blk_far ?_ NB184_194.out _; (with_reducible repeat (first | refine blk_drewN ?_ _ | refine blk_drew ?_ | refine blk_alloc ?_ _)); refine blk_far ?_ NB184_194.out _; (with_reducible repeat (first | refine blk_drewN ?_ _ | refine blk_drew ?_ | refine blk_alloc ?_ _)); exact BK184.out⟩, ⟨by (try simp only [hl3_1]); (with_reducible repeat (first | refine blk_drewN ?_ _ | refine blk_drew ?_ | refine blk_alloc ?_ _)); refine blk_put (cs := #[.int .i64 ((rd_T73 l0_3 (rd x4_1 x5_1)).f0), .int .i64 0]) ?_ 1 _ rfl; (with_reducible repeat (first | refine blk_drewN ?_ _ | refine blk_drew ?_ | refine blk_alloc ?_ _)); refine blk_put (cs := #[.int .i64 0, .int .i64 0]) ?_ 0 _ rfl; (with_reducible repeat (first | refine blk_drewN ?_ _ | refine blk_drew ?_ | refine blk_alloc ?_ _)); exact BK194.out⟩, ⟨by repeat (first | (with_reducible first | exact HB.out | apply below_alloc | apply pw_below_drewN | apply below_drew1 | refine below_set ?_ GE184.out | refine below_set ?_ GE194.out) | exact HB.out)⟩⟩
                              · rw [if_neg c33] at H
                                exact absurd H (by simp)
                            · rw [if_neg c32] at H
                              exact absurd H (by simp)
                          · rw [if_neg c30] at H
                            have c30b0 : decide ((wrap64 ((rd x4_1 x5_1) + 1)) < (l0_3.length : Int)) = false := decide_eq_false c30
                            clear c30
                            have H' := Aside0.mk H
                            clear H
                            have hnb37 := NB194_184.out
                            have hnc37 := NB184_194.out
                            have hcz38_0 : w21.cell? ⟨gb194, 0, none⟩ = some (.int .i64 0) := (blk_cell BK194.out 0).trans rfl
                            have hcz38_1 : w21.cell? ⟨gb194, 1, none⟩ = some (.int .i64 0) := (blk_cell BK194.out 1).trans rfl
                            have hfz38_0 := blk_frozen BK194.out 0
                            have hfz38_1 := blk_frozen BK194.out 1
                            have hcz39_0 : w21.cell? ⟨gb184, 0, none⟩ = some (.int .i64 a0_0) := (blk_cell BK184.out 0).trans rfl
                            have hcz39_1 : w21.cell? ⟨gb184, 1, none⟩ = some (.int .i64 a0_1) := (blk_cell BK184.out 1).trans rfl
                            have hcz39_2 : w21.cell? ⟨gb184, 2, none⟩ = some (.slice A0_2 l0_2.length c0_2) := (blk_cell BK184.out 2).trans rfl
                            have hcz39_3 : w21.cell? ⟨gb184, 3, none⟩ = some (.slice (some ad193) l0_3.length c0_3) := (blk_cell BK184.out 3).trans rfl
                            have hfz39_0 := blk_frozen BK184.out 0
                            have hfz39_1 := blk_frozen BK184.out 1
                            have hfz39_2 := blk_frozen BK184.out 2
                            have hfz39_3 := blk_frozen BK184.out 3
                            go_wp2
                            (try subst hji31)
                            go_meet
                            case rel => exact ⟨_, (false), (by first | rfl | (simp; done) | (simp [*]; done)), H', ⟨by have := HK1.out; first | omega | exact Nat.le_refl _⟩, ⟨by (try simp only [hl3_1]); (with_reducible repeat (first | apply Kd.R_alloc | apply Kd.R_drewN | apply Kd.R_drew)); exact Kd.R_mono (Kd.R_far (p := ⟨gb194, 1, none⟩) (Kd.R_far (p := ⟨gb194, 0, none⟩) (Kd.R_types HO_3.out BK194.out (by decide)) (fun _ hk => hk.2) (.int .i64 ((rd_T73 l0_3 (rd x4_1 x5_1)).f0))) (fun _ hk => hk.2) (.int .i64 ((rd_T73 l0_3 (rd x4_1 x5_1)).f1))) (fun _ hk => trivial)⟩, ⟨by (try simp only [hl3_1]); (with_reducible repeat (first | apply Kd.R_alloc | apply Kd.R_drewN | apply Kd.R_drew)); exact Kd.R_mono (Kd.R_far (p := ⟨gb194, 1, none⟩) (Kd.R_far (p := ⟨gb194, 0, none⟩) (Kd.R_types HO_4.out BK194.out (by decide)) (fun _ hk => hk.2) (.int .i64 ((rd_T73 l0_3 (rd x4_1 x5_1)).f0))) (fun _ hk => hk.2) (.int .i64 ((rd_T73 l0_3 (rd x4_1 x5_1)).f1))) (fun _ hk => trivial)⟩, ⟨by (try simp only [hl3_1]); (with_reducible repeat (first | refine blk_drewN ?_ _ | refine blk_drew ?_ | refine blk_alloc ?_ _)); refine blk_far ?_ NB184_194.out _; (with_reducible repeat (first | refine blk_drewN ?_ _ | refine blk_drew ?_ | refine blk_alloc ?_ _)); refine blk_far ?_ NB184_194.out _; (with_reducible repeat (first | refine blk_drewN ?_ _ | refine blk_drew ?_ | refine blk_alloc ?_ _)); exact BK184.out⟩, ⟨by (try simp only [hl3_1]); (with_reducible repeat (first | refine blk_drewN ?_ _ | refine blk_drew ?_ | refine blk_alloc ?_ _)); refine blk_put (cs := #[.int .i64 ((rd_T73 l0_3 (rd x4_1 x5_1)).f0), .int .i64 0]) ?_ 1 _ rfl; (with_reducible repeat (first | refine blk_drewN ?_ _ | refine blk_drew ?_ | refine blk_alloc ?_ _)); refine blk_put (cs := #[.int .i64 0, .int .i64 0]) ?_ 0 _ rfl; (with_reducible repeat (first | refine blk_drewN ?_ _ | refine blk_drew ?_ | refine blk_alloc ?_ _)); exact BK194.out⟩, ⟨by repeat (first | (with_reducible first | exact HB.out | apply below_alloc | apply pw_below_drewN | apply below_drew1 | refine below_set ?_ GE184.out | refine below_set ?_ GE194.out) | exact HB.out)⟩⟩
                    case rest =>
                      clear HC18
                      try clear c1
                      try clear p1
                      try clear q1
                      try clear hx1
                      try clear c2
                      try clear c2b0
                      try clear c2b1
                      try clear p2
                      try clear c3
                      try clear c3b0
                      try clear c3b1
                      try clear c4
                      try clear c4b0
                      try clear c4b1
                      try clear p5
                      try clear q5
                      try clear hx5
                      try clear qi5
                      try clear hf5
                      try clear c6
                      try clear p6
                      try clear c14
                      try clear c14b0
                      try clear c15
                      try clear c15b0
                      try clear c16
                      try clear c16b0
                      try clear c17
                      try clear c17b0
                      try clear p19
                      try clear q19
                      try clear hx19
                      try clear c24
                      try clear c24b0
                      try clear c24b1
                      try clear c25
                      try clear c27
                      try clear c27b0
                      try clear c27b1
                      try clear c28
                      try clear c30
                      try clear c30b0
                      try clear c32
                      try clear c32b0
                      try clear c33
                      try clear c33b0
                      try clear c34
                      try clear c37
                      try clear hcz26_0
                      try clear hcz26_1
                      try clear hcz29_0
                      try clear hcz29_1
                      try clear hcz35_0
                      try clear hcz35_1
                      try clear hcz36_0
                      try clear hcz36_1
                      try clear hcz36_2
                      try clear hcz36_3
                      try clear hcz38_0
                      try clear hcz38_1
                      try clear hcz39_0
                      try clear hcz39_1
                      try clear hcz39_2
                      try clear hcz39_3
                      try clear hcz7_0
                      try clear hcz7_1
                      try clear hcz7_2
                      try clear hcz7_3
                      try clear hfz26_0
                      try clear hfz26_1
                      try clear hfz29_0
                      try clear hfz29_1
                      try clear hfz35_0
                      try clear hfz35_1
                      try clear hfz36_0
                      try clear hfz36_1
                      try clear hfz36_2
                      try clear hfz36_3
                      try clear hfz38_0
                      try clear hfz38_1
                      try clear hfz39_0
                      try clear hfz39_1
                      try clear hfz39_2
                      try clear hfz39_3
                      try clear hfz7_0
                      try clear hfz7_1
                      try clear hfz7_2
                      try clear hfz7_3
                      try clear hx192_0
                      try clear hx193_0
                      try clear hx193_1
                      try clear hx195_0
                      try clear hx196_0
                      try clear hx5_0
                      try clear p192
                      try clear p193
                      try clear p195
                      try clear p196
                      try clear p2
                      try clear p5
                      try clear q192
                      try clear q193
                      try clear q195
                      try clear q196
                      try clear q5
                      obtain ⟨kq, x55_17, rfl, HA, HJ17, HO_3, HO_4, BK184, BK194, HB⟩ := hcut
                      cases kq with
                      | zero => exact absurd HA.out (by simp [spec_l18Reach.j1])
                      | succ kj17 =>
                        have H := HA.out
                        clear HA
                        simp only [spec_l18Reach.j1] at H
                        by_cases c40 : x55_17 = true
                        · subst c40
                          have H1 : (if 0 ≤ (wrap64 ((rd x4_1 x5_1) + 1)) then (if (wrap64 ((rd x4_1 x5_1) + 1)) < (x3_1.length : Int) then ((some (x3_1.set ((wrap64 ((rd x4_1 x5_1) + 1)) : Int).toNat true : List Bool)).bind fun y197 => (if x4_1.length < 17592186044416 then ((some (x4_1 ++ [(wrap64 ((rd x4_1 x5_1) + 1))] : List Int)).bind fun y198 => ((spec_l18Leads.f ((rd_T73 l0_3 (rd x4_1 x5_1)).f0)).bind fun t201 => (if t201 = true then (if 0 ≤ ((rd_T73 l0_3 (rd x4_1 x5_1)).f1) then (if ((rd_T73 l0_3 (rd x4_1 x5_1)).f1) < (x3_1.length : Int) then (if rdOf false y197 ((rd_T73 l0_3 (rd x4_1 x5_1)).f1) = true then (spec_l18Reach.l0 kj17 y197 y198 (wrap64 (x5_1 + 1)) a0_0 a0_1 l0_2 l0_3) else (if y198.length < 17592186044416 then (spec_l18Reach.l0 kj17 (y197.set (((rd_T73 l0_3 (rd x4_1 x5_1)).f1) : Int).toNat true) (y198 ++ [((rd_T73 l0_3 (rd x4_1 x5_1)).f1)]) (wrap64 (x5_1 + 1)) a0_0 a0_1 l0_2 l0_3) else (none))) else (none)) else (none)) else (spec_l18Reach.l0 kj17 y197 y198 (wrap64 (x5_1 + 1)) a0_0 a0_1 l0_2 l0_3)))) else (none))) else (none)) else (none)) = some r := by rw [if_pos rfl] at H; exact H
                          clear H
                          have H := H1
                          clear H1
                          obtain ⟨ji41, hji41⟩ : ∃ j_ : Int, (wrap64 ((rd x4_1 x5_1) + 1)) = j_ := ⟨_, rfl⟩
                          replace H : (if 0 ≤ (ji41) then (if (ji41) < (x3_1.length : Int) then ((some (x3_1.set ((ji41) : Int).toNat true : List Bool)).bind fun y197 => (if x4_1.length < 17592186044416 then ((some (x4_1 ++ [(ji41)] : List Int)).bind fun y198 => ((spec_l18Leads.f ((rd_T73 l0_3 (rd x4_1 x5_1)).f0)).bind fun t201 => (if t201 = true then (if 0 ≤ ((rd_T73 l0_3 (rd x4_1 x5_1)).f1) then (if ((rd_T73 l0_3 (rd x4_1 x5_1)).f1) < (x3_1.length : Int) then (if rdOf false y197 ((rd_T73 l0_3 (rd x4_1 x5_1)).f1) = true then (spec_l18Reach.l0 kj17 y197 y198 (wrap64 (x5_1 + 1)) a0_0 a0_1 l0_2 l0_3) else (if y198.length < 17592186044416 then (spec_l18Reach.l0 kj17 (y197.set (((rd_T73 l0_3 (rd x4_1 x5_1)).f1) : Int).toNat true) (y198 ++ [((rd_T73 l0_3 (rd x4_1 x5_1)).f1)]) (wrap64 (x5_1 + 1)) a0_0 a0_1 l0_2 l0_3) else (none))) else (none)) else (none)) else (spec_l18Reach.l0 kj17 y197 y198 (wrap64 (x5_1 + 1)) a0_0 a0_1 l0_2 l0_3)))) else (none))) else (none)) else (none)) = some r := by first | (rw [hji41] at H; exact H) | (simp only [hji41] at H ⊢; exact H)
                          have hji41w : (IntKind.i64.wrap ((rd x4_1 x5_1) + 1)) = ji41 := (i64_w _).trans hji41
                          by_cases c42 : 0 ≤ (ji41)
                          · rw [if_pos c42] at H
                            have c42b0 : decide (0 ≤ (ji41)) = true := decide_eq_true c42
                            clear c42
                            by_cases c43 : (ji41) < (x3_1.length : Int)
                            · rw [if_pos c43] at H
                              have c43b0 : decide ((ji41) < (x3_1.length : Int)) = true := decide_eq_true c43
                              clear c43
                              obtain ⟨y197, hy197⟩ : ∃ y_ : List Bool, y_ = (x3_1.set ((ji41) : Int).toNat true) := ⟨_, rfl⟩
                              replace H : (if x4_1.length < 17592186044416 then ((some (x4_1 ++ [(ji41)] : List Int)).bind fun y198 => ((spec_l18Leads.f ((rd_T73 l0_3 (rd x4_1 x5_1)).f0)).bind fun t201 => (if t201 = true then (if 0 ≤ ((rd_T73 l0_3 (rd x4_1 x5_1)).f1) then (if ((rd_T73 l0_3 (rd x4_1 x5_1)).f1) < (x3_1.length : Int) then (if rdOf false y197 ((rd_T73 l0_3 (rd x4_1 x5_1)).f1) = true then (spec_l18Reach.l0 kj17 y197 y198 (wrap64 (x5_1 + 1)) a0_0 a0_1 l0_2 l0_3) else (if y198.length < 17592186044416 then (spec_l18Reach.l0 kj17 (y197.set (((rd_T73 l0_3 (rd x4_1 x5_1)).f1) : Int).toNat true) (y198 ++ [((rd_T73 l0_3 (rd x4_1 x5_1)).f1)]) (wrap64 (x5_1 + 1)) a0_0 a0_1 l0_2 l0_3) else (none))) else (none)) else (none)) else (spec_l18Reach.l0 kj17 y197 y198 (wrap64 (x5_1 + 1)) a0_0 a0_1 l0_2 l0_3)))) else (none)) = some r := by first | (rw [hy197]; with_reducible exact H) | (have H2_ := (Option.bind_some _ _).symm.trans H; rw [hy197]; with_reducible exact H2_) | (have H2_ := (Option.bind_some _ _).symm.trans H; with_reducible exact H2_) | with_reducible exact H | (rw [hy197]; exact H) | exact H
                              have Ny197 := Aside0.mk hy197
                              clear hy197
                              by_cases c45 : x4_1.length < 17592186044416
                              · rw [if_pos c45] at H
                                have LMc45 := Aside0.mk c45
                                clear c45
                                obtain ⟨y198, hy198⟩ : ∃ y_ : List Int, y_ = (x4_1 ++ [(ji41)]) := ⟨_, rfl⟩
                                replace H : ((spec_l18Leads.f ((rd_T73 l0_3 (rd x4_1 x5_1)).f0)).bind fun t201 => (if t201 = true then (if 0 ≤ ((rd_T73 l0_3 (rd x4_1 x5_1)).f1) then (if ((rd_T73 l0_3 (rd x4_1 x5_1)).f1) < (x3_1.length : Int) then (if rdOf false y197 ((rd_T73 l0_3 (rd x4_1 x5_1)).f1) = true then (spec_l18Reach.l0 kj17 y197 y198 (wrap64 (x5_1 + 1)) a0_0 a0_1 l0_2 l0_3) else (if y198.length < 17592186044416 then (spec_l18Reach.l0 kj17 (y197.set (((rd_T73 l0_3 (rd x4_1 x5_1)).f1) : Int).toNat true) (y198 ++ [((rd_T73 l0_3 (rd x4_1 x5_1)).f1)]) (wrap64 (x5_1 + 1)) a0_0 a0_1 l0_2 l0_3) else (none))) else (none)) else (none)) else (spec_l18Reach.l0 kj17 y197 y198 (wrap64 (x5_1 + 1)) a0_0 a0_1 l0_2 l0_3))) = some r := by first | (rw [hy198]; with_reducible exact H) | (have H2_ := (Option.bind_some _ _).symm.trans H; rw [hy198]; with_reducible exact H2_) | (have H2_ := (Option.bind_some _ _).symm.trans H; with_reducible exact H2_) | with_reducible exact H | (rw [hy198]; exact H) | exact H
                                have Ny198 := Aside0.mk hy198
                                clear hy198
                                replace H := Option.bind_eq_some_iff.mp H
                                obtain ⟨t201, A460, H⟩ := H
                                replace H : (if t201 = true then (if 0 ≤ ((rd_T73 l0_3 (rd x4_1 x5_1)).f1) then (if ((rd_T73 l0_3 (rd x4_1 x5_1)).f1) < (x3_1.length : Int) then (if rdOf false y197 ((rd_T73 l0_3 (rd x4_1 x5_1)).f1) = true then (spec_l18Reach.l0 kj17 y197 y198 (wrap64 (x5_1 + 1)) a0_0 a0_1 l0_2 l0_3) else (if y198.length < 17592186044416 then (spec_l18Reach.l0 kj17 (y197.set (((rd_T73 l0_3 (rd x4_1 x5_1)).f1) : Int).toNat true) (y198 ++ [((rd_T73 l0_3 (rd x4_1 x5_1)).f1)]) (wrap64 (x5_1 + 1)) a0_0 a0_1 l0_2 l0_3) else (none))) else (none)) else (none)) else (spec_l18Reach.l0 kj17 y197 y198 (wrap64 (x5_1 + 1)) a0_0 a0_1 l0_2 l0_3)) = some r := H
                                have A46 := Aside0.mk A460
                                clear A460
                                by_cases c47 : t201 = true
                                · subst c47
                                  have H1 : (if 0 ≤ ((rd_T73 l0_3 (rd x4_1 x5_1)).f1) then (if ((rd_T73 l0_3 (rd x4_1 x5_1)).f1) < (x3_1.length : Int) then (if rdOf false y197 ((rd_T73 l0_3 (rd x4_1 x5_1)).f1) = true then (spec_l18Reach.l0 kj17 y197 y198 (wrap64 (x5_1 + 1)) a0_0 a0_1 l0_2 l0_3) else (if y198.length < 17592186044416 then (spec_l18Reach.l0 kj17 (y197.set (((rd_T73 l0_3 (rd x4_1 x5_1)).f1) : Int).toNat true) (y198 ++ [((rd_T73 l0_3 (rd x4_1 x5_1)).f1)]) (wrap64 (x5_1 + 1)) a0_0 a0_1 l0_2 l0_3) else (none))) else (none)) else (none)) = some r := by rw [if_pos rfl] at H; exact H
                                  clear H
                                  have H := H1
                                  clear H1
                                  by_cases c48 : 0 ≤ ((rd_T73 l0_3 (rd x4_1 x5_1)).f1)
                                  · rw [if_pos c48] at H
                                    have c48b0 : decide (0 ≤ ((rd_T73 l0_3 (rd x4_1 x5_1)).f1)) = true := decide_eq_true c48
                                    clear c48
                                    by_cases c49 : ((rd_T73 l0_3 (rd x4_1 x5_1)).f1) < (x3_1.length : Int)
                                    · rw [if_pos c49] at H
                                      have c49b0 : decide (((rd_T73 l0_3 (rd x4_1 x5_1)).f1) < (x3_1.length : Int)) = true := decide_eq_true c49
                                      clear c49
                                      obtain ⟨bq50, hbq50⟩ : ∃ b_ : Bool, b_ = (rdOf false y197 ((rd_T73 l0_3 (rd x4_1 x5_1)).f1)) := ⟨_, rfl⟩
                                      replace H : (if bq50 = true then (spec_l18Reach.l0 kj17 y197 y198 (wrap64 (x5_1 + 1)) a0_0 a0_1 l0_2 l0_3) else (if y198.length < 17592186044416 then (spec_l18Reach.l0 kj17 (y197.set (((rd_T73 l0_3 (rd x4_1 x5_1)).f1) : Int).toNat true) (y198 ++ [((rd_T73 l0_3 (rd x4_1 x5_1)).f1)]) (wrap64 (x5_1 + 1)) a0_0 a0_1 l0_2 l0_3) else (none))) = some r := by rw [← hbq50] at H; exact H
                                      have Nbq50 := Aside0.mk hbq50
                                      clear hbq50
                                      by_cases c51 : bq50 = true
                                      · subst c51
                                        have H1 : (spec_l18Reach.l0 kj17 y197 y198 (wrap64 (x5_1 + 1)) a0_0 a0_1 l0_2 l0_3) = some r := by rw [if_pos rfl] at H; exact H
                                        clear H
                                        have H := H1
                                        clear H1
                                        have H' := Aside0.mk H
                                        clear H
                                        have p44 : 0 ≤ ((ji41) : Int) := of_decide_eq_true (by first | (with_reducible assumption) | assumption)
                                        have q44 : ((ji41) : Int) < ((x3_1.length : Int) : Int) := of_decide_eq_true (by first | (with_reducible assumption) | assumption)
                                        obtain ⟨hx44_0, hf44_0⟩ := Kd.R_celln false HO_3.out ((ji41) : Int) p44 q44
                                        replace p44 := eq_true p44
                                        replace q44 := eq_true q44
                                        have HP52 := Kd.R_putg HO_3.out ((ji41) : Int) true
                                        go_wp2_with (first | ((with_reducible refine gate_store (t := 4) (p := 58) rfl ?_); refine store_event (t := 4) (p := 58) (v := ?vo_w53) (w1 := (wc.setCell ⟨go5, ((ji41) : Int).toNat, none⟩ (.bool true))) ?hg ?ho ?hn ?hr ?_; (case ho => rfl); (case hg => rfl); (case hn => rfl); (case hr => first | (go_simp; done) | (go_simp; rfl)); intro w53 hw; have hg : wc.grownBy w53 (some go5) := (by rw [hw]; exact HP52.2); have hp_ : Kd.R Kd.bool 4 w53 w.heap.size (fun _ => True) (.slice (some ⟨go5, 0, none⟩) x3_1.length co5) y197 := (by rw [hw, Ny197.out]; exact HP52.1); clear HP52; have n0_ := Aside0.mk (hp_); have n1_ := Aside0.mk (Kd.R_over' (v := (.slice (some ⟨go5, 0, none⟩) x3_1.length co5)) (by (with_reducible repeat (first | apply Kd.R_alloc | apply Kd.R_drewN | apply Kd.R_drew)); exact HO_4.out) (Kd.R_typed HO_3.out) (by decide) hg); have n2_ := Aside0.mk (blk_grown (g := gb184) (o := .cells #[.int .i64 a0_0, .int .i64 a0_1, .slice A0_2 l0_2.length c0_2, .slice (some ad193) l0_3.length c0_3] 38 (0, 0)) (by (with_reducible repeat (first | refine blk_drewN ?_ _ | refine blk_drew ?_ | refine blk_alloc ?_ _)); exact BK184.out) hg (Kd.R_ne HO_3.out BK184.out (by decide))); have n3_ := Aside0.mk (blk_grown (g := gb194) (o := .cells #[.int .i64 ((rd_T73 l0_3 (rd x4_1 x5_1)).f0), .int .i64 ((rd_T73 l0_3 (rd x4_1 x5_1)).f1)] 73 (0, 0)) (by (with_reducible repeat (first | refine blk_drewN ?_ _ | refine blk_drew ?_ | refine blk_alloc ?_ _)); exact BK194.out) hg (Kd.R_ne HO_3.out BK194.out (by decide))); have n4_ := Aside0.mk ((by rw [hw]; exact below_set (HB.out) GB5.out : Below w.heap.size w w53)); clear HO_3; clear HO_4; clear BK184; clear BK194; clear HB; have HO_3 := n0_; have HO_4 := n1_; have BK184 := n2_; have BK194 := n3_; have HB := n4_; clear n0_ n1_ n2_ n3_ n4_; clear hg hw hp_) | ((with_reducible refine gate_builtin (b := .append) (xs := #[.tmp 59, .tmp 61]) rfl ?_); (try (refine gate_guard (by rfl) ?_; dsimp only)); at_builtin; refine Kd.R_append (Kd.int .i64) (w0 := w) w.heap.size rfl (.tmp 59) (.tmp 61) 44 3 (.int .i64 0) 8 rfl Try.underlying44 info3 rfl (by decide) (by omega) (.slice (some ad192) x4_1.length co19) x4_1 (ji41) [.int .i64 (ji41)] (fun _ => True) (fun _ => False) rfl rfl ?aP (fun _ hk => hk.elim) ?aF ?aO ?aB ?aS ?aL ?_; (case aP => exact rfl); (case aB => exact (by repeat (first | (with_reducible first | exact HB.out | apply below_alloc | apply pw_below_drewN | apply below_drew1 | refine below_set ?_ GE184.out | refine below_set ?_ GE194.out) | exact HB.out))); (case aF => exact (fun _ _ => trivial)); (case aO => exact (by (with_reducible repeat (first | apply Kd.R_alloc | apply Kd.R_drewN | apply Kd.R_drew)); exact HO_4.out)); (case aS => exact (below_size (by repeat (first | (with_reducible first | exact HB.out | apply below_alloc | apply pw_below_drewN | apply below_drew1 | refine below_set ?_ GE184.out | refine below_set ?_ GE194.out) | exact HB.out)))); (case aL => have := LMc45.out; omega); intro v199 w54 ho hb hg hat; rw [← Ny198.out] at ho; have n0_ := Aside0.mk (Kd.R_over' (by (with_reducible repeat (first | apply Kd.R_alloc | apply Kd.R_drewN | apply Kd.R_drew)); exact HO_3.out) (Kd.R_typed (by (with_reducible repeat (first | apply Kd.R_alloc | apply Kd.R_drewN | apply Kd.R_drew)); exact HO_4.out)) (by decide) hg); have n1_ := Aside0.mk (blk_grown (g := gb184) (o := .cells #[.int .i64 a0_0, .int .i64 a0_1, .slice A0_2 l0_2.length c0_2, .slice (some ad193) l0_3.length c0_3] 38 (0, 0)) (by (with_reducible repeat (first | refine blk_drewN ?_ _ | refine blk_drew ?_ | refine blk_alloc ?_ _)); exact BK184.out) hg (Kd.R_ne HO_4.out BK184.out (by decide))); have n2_ := Aside0.mk (blk_grown (g := gb194) (o := .cells #[.int .i64 ((rd_T73 l0_3 (rd x4_1 x5_1)).f0), .int .i64 ((rd_T73 l0_3 (rd x4_1 x5_1)).f1)] 73 (0, 0)) (by (with_reducible repeat (first | refine blk_drewN ?_ _ | refine blk_drew ?_ | refine blk_alloc ?_ _)); exact BK194.out) hg (Kd.R_ne HO_4.out BK194.out (by decide))); have n3_ := Aside0.mk (hb); have n4_ := Aside0.mk (ho); clear HO_3; clear BK184; clear BK194; clear HB; clear HO_4; have HO_3 := n0_; have BK184 := n1_; have BK194 := n2_; have HB := n3_; have HO200 := n4_; clear n0_ n1_ n2_ n3_ n4_; clear ho hb hg hat; have hnb55 := NB194_184.out; have hnc55 := NB184_194.out; have hcz56_0 : w54.cell? ⟨gb194, 0, none⟩ = some (.int .i64 ((rd_T73 l0_3 (rd x4_1 x5_1)).f0)) := (blk_cell BK194.out 0).trans rfl; have hcz56_1 : w54.cell? ⟨gb194, 1, none⟩ = some (.int .i64 ((rd_T73 l0_3 (rd x4_1 x5_1)).f1)) := (blk_cell BK194.out 1).trans rfl; have hfz56_0 := blk_frozen BK194.out 0; have hfz56_1 := blk_frozen BK194.out 1) | ((with_reducible refine gate_callee (f := 48) rfl ?_); refine goesL_ (some 65) rfl rfl Try.func48 (by kernel_rfl) rfl #[.int .i64 ((rd_T73 l0_3 (rd x4_1 x5_1)).f0)] rfl (by (try simp only [List.map_toArray, List.map_cons, List.map_nil]); first | done | rfl | (simp only [List.length_drop, List.length_take]; rfl)) ?_; (with_reducible refine (spec_l18Leads.calls ((rd_T73 l0_3 (rd x4_1 x5_1)).f0) true _ A46.out).mono ?_); rintro e w' ⟨rfl, ⟨nd, rfl⟩⟩; refine ⟨_, rfl, ?_⟩; have p202 : 0 ≤ (((rd_T73 l0_3 (rd x4_1 x5_1)).f1) : Int) := of_decide_eq_true (by first | (with_reducible assumption) | assumption); have q202 : ((rd_T73 l0_3 (rd x4_1 x5_1)).f1) < (y197.length : Int) := (by have h_ : (((rd_T73 l0_3 (rd x4_1 x5_1)).f1) : Int) < ((x3_1.length : Int) : Int) := of_decide_eq_true (by first | (with_reducible assumption) | assumption); first | (have e_ := (Kd.R_reads' HO_3.out).1; omega) | simpa only [Ny197.out, List.length_set] using h_); have ql202 : ((((rd_T73 l0_3 (rd x4_1 x5_1)).f1) : Int) < ((x3_1.length : Int) : Int)) = True := eq_true (of_decide_eq_true (by first | (with_reducible assumption) | assumption)); obtain ⟨ad202, e202, hx202_0⟩ := Kd.at_bool (Kd.R_reads' HO_3.out).2.2 ((rd_T73 l0_3 (rd x4_1 x5_1)).f1) p202 q202; (try rw [← Nbq50.out] at hx202_0); obtain rfl : (⟨go5, 0, none⟩ : Addr) = ad202 := (by injection e202); (first | simp only [add_plain] at hx202_0 | simp only [add_at] at hx202_0 | simp only [Addr.add, Nat.zero_add] at hx202_0 | skip); replace p202 := eq_true p202; replace q202 := eq_true q202))
                                        (try simp only [← hl3_1])
                                        (try subst hji41)
                                        (try subst hji31)
                                        go_roundg kj17
                                        case measure => have := HK1.out; have := HJ17.out; omega
                                        case rel => exact ⟨(y197), (y198), (wrap64 (x5_1 + 1)), (by first | rfl | (simp; done) | (simp [*]; done)), H', ⟨by have := HK1.out; have := HJ17.out; omega⟩, ⟨by (try simp only [hl3_1]); (with_reducible repeat (first | apply Kd.R_alloc | apply Kd.R_drewN | apply Kd.R_drew)); exact HO_3.out⟩, ⟨by (try simp only [hl3_1]); (with_reducible repeat (first | apply Kd.R_alloc | apply Kd.R_drewN | apply Kd.R_drew)); exact HO200.out⟩, ⟨by (try simp only [hl3_1]); (with_reducible repeat (first | refine blk_drewN ?_ _ | refine blk_drew ?_ | refine blk_alloc ?_ _)); exact BK184.out⟩, ⟨by repeat (first | (with_reducible first | exact HB.out | apply below_alloc | apply pw_below_drewN | apply below_drew1 | refine below_set ?_ GE184.out | refine below_set ?_ GE194.out) | exact HB.out)⟩⟩
                                      · replace c51 := Bool.eq_false_iff.mpr c51
                                        subst c51
                                        have H1 : (if y198.length < 17592186044416 then (spec_l18Reach.l0 kj17 (y197.set (((rd_T73 l0_3 (rd x4_1 x5_1)).f1) : Int).toNat true) (y198 ++ [((rd_T73 l0_3 (rd x4_1 x5_1)).f1)]) (wrap64 (x5_1 + 1)) a0_0 a0_1 l0_2 l0_3) else (none)) = some r := by rw [if_neg (show ¬ (false = true) by decide)] at H; exact H
                                        clear H
                                        have H := H1
                                        clear H1
                                        obtain ⟨y203, hy203⟩ : ∃ y_ : List Bool, y_ = (y197.set (((rd_T73 l0_3 (rd x4_1 x5_1)).f1) : Int).toNat true) := ⟨_, rfl⟩
                                        replace H : (if y198.length < 17592186044416 then (spec_l18Reach.l0 kj17 y203 (y198 ++ [((rd_T73 l0_3 (rd x4_1 x5_1)).f1)]) (wrap64 (x5_1 + 1)) a0_0 a0_1 l0_2 l0_3) else (none)) = some r := by first | (rw [hy203]; with_reducible exact H) | (have H2_ := (Option.bind_some _ _).symm.trans H; rw [hy203]; with_reducible exact H2_) | (have H2_ := (Option.bind_some _ _).symm.trans H; with_reducible exact H2_) | with_reducible exact H | (rw [hy203]; exact H) | exact H
                                        have Ny203 := Aside0.mk hy203
                                        clear hy203
                                        by_cases c58 : y198.length < 17592186044416
                                        · rw [if_pos c58] at H
                                          have LMc58 := Aside0.mk c58
                                          clear c58
                                          obtain ⟨y204, hy204⟩ : ∃ y_ : List Int, y_ = (y198 ++ [((rd_T73 l0_3 (rd x4_1 x5_1)).f1)]) := ⟨_, rfl⟩
                                          replace H : (spec_l18Reach.l0 kj17 y203 y204 (wrap64 (x5_1 + 1)) a0_0 a0_1 l0_2 l0_3) = some r := by first | (rw [hy204]; with_reducible exact H) | (have H2_ := (Option.bind_some _ _).symm.trans H; rw [hy204]; with_reducible exact H2_) | (have H2_ := (Option.bind_some _ _).symm.trans H; with_reducible exact H2_) | with_reducible exact H | (rw [hy204]; exact H) | exact H
                                          have Ny204 := Aside0.mk hy204
                                          clear hy204
                                          have H' := Aside0.mk H
                                          clear H
                                          have p44 : 0 ≤ ((ji41) : Int) := of_decide_eq_true (by first | (with_reducible assumption) | assumption)
                                          have q44 : ((ji41) : Int) < ((x3_1.length : Int) : Int) := of_decide_eq_true (by first | (with_reducible assumption) | assumption)
                                          obtain ⟨hx44_0, hf44_0⟩ := Kd.R_celln false HO_3.out ((ji41) : Int) p44 q44
                                          replace p44 := eq_true p44
                                          replace q44 := eq_true q44
                                          have HP59 := Kd.R_putg HO_3.out ((ji41) : Int) true
                                          go_wp2_with (first | ((with_reducible refine gate_store (t := 4) (p := 58) rfl ?_); refine store_event (t := 4) (p := 58) (v := ?vo_w60) (w1 := (wc.setCell ⟨go5, ((ji41) : Int).toNat, none⟩ (.bool true))) ?hg ?ho ?hn ?hr ?_; (case ho => rfl); (case hg => rfl); (case hn => rfl); (case hr => first | (go_simp; done) | (go_simp; rfl)); intro w60 hw; have hg : wc.grownBy w60 (some go5) := (by rw [hw]; exact HP59.2); have hp_ : Kd.R Kd.bool 4 w60 w.heap.size (fun _ => True) (.slice (some ⟨go5, 0, none⟩) x3_1.length co5) y197 := (by rw [hw, Ny197.out]; exact HP59.1); clear HP59; have n0_ := Aside0.mk (hp_); have n1_ := Aside0.mk (Kd.R_over' (v := (.slice (some ⟨go5, 0, none⟩) x3_1.length co5)) (by (with_reducible repeat (first | apply Kd.R_alloc | apply Kd.R_drewN | apply Kd.R_drew)); exact HO_4.out) (Kd.R_typed HO_3.out) (by decide) hg); have n2_ := Aside0.mk (blk_grown (g := gb184) (o := .cells #[.int .i64 a0_0, .int .i64 a0_1, .slice A0_2 l0_2.length c0_2, .slice (some ad193) l0_3.length c0_3] 38 (0, 0)) (by (with_reducible repeat (first | refine blk_drewN ?_ _ | refine blk_drew ?_ | refine blk_alloc ?_ _)); exact BK184.out) hg (Kd.R_ne HO_3.out BK184.out (by decide))); have n3_ := Aside0.mk (blk_grown (g := gb194) (o := .cells #[.int .i64 ((rd_T73 l0_3 (rd x4_1 x5_1)).f0), .int .i64 ((rd_T73 l0_3 (rd x4_1 x5_1)).f1)] 73 (0, 0)) (by (with_reducible repeat (first | refine blk_drewN ?_ _ | refine blk_drew ?_ | refine blk_alloc ?_ _)); exact BK194.out) hg (Kd.R_ne HO_3.out BK194.out (by decide))); have n4_ := Aside0.mk ((by rw [hw]; exact below_set (HB.out) GB5.out : Below w.heap.size w w60)); clear HO_3; clear HO_4; clear BK184; clear BK194; clear HB; have HO_3 := n0_; have HO_4 := n1_; have BK184 := n2_; have BK194 := n3_; have HB := n4_; clear n0_ n1_ n2_ n3_ n4_; clear hg hw hp_) | ((with_reducible refine gate_builtin (b := .append) (xs := #[.tmp 59, .tmp 61]) rfl ?_); (try (refine gate_guard (by rfl) ?_; dsimp only)); at_builtin; refine Kd.R_append (Kd.int .i64) (w0 := w) w.heap.size rfl (.tmp 59) (.tmp 61) 44 3 (.int .i64 0) 8 rfl Try.underlying44 info3 rfl (by decide) (by omega) (.slice (some ad192) x4_1.length co19) x4_1 (ji41) [.int .i64 (ji41)] (fun _ => True) (fun _ => False) rfl rfl ?aP (fun _ hk => hk.elim) ?aF ?aO ?aB ?aS ?aL ?_; (case aP => exact rfl); (case aB => exact (by repeat (first | (with_reducible first | exact HB.out | apply below_alloc | apply pw_below_drewN | apply below_drew1 | refine below_set ?_ GE184.out | refine below_set ?_ GE194.out) | exact HB.out))); (case aF => exact (fun _ _ => trivial)); (case aO => exact (by (with_reducible repeat (first | apply Kd.R_alloc | apply Kd.R_drewN | apply Kd.R_drew)); exact HO_4.out)); (case aS => exact (below_size (by repeat (first | (with_reducible first | exact HB.out | apply below_alloc | apply pw_below_drewN | apply below_drew1 | refine below_set ?_ GE184.out | refine below_set ?_ GE194.out) | exact HB.out)))); (case aL => have := LMc45.out; omega); intro v199 w61 ho hb hg hat; rw [← Ny198.out] at ho; have n0_ := Aside0.mk (Kd.R_over' (by (with_reducible repeat (first | apply Kd.R_alloc | apply Kd.R_drewN | apply Kd.R_drew)); exact HO_3.out) (Kd.R_typed (by (with_reducible repeat (first | apply Kd.R_alloc | apply Kd.R_drewN | apply Kd.R_drew)); exact HO_4.out)) (by decide) hg); have n1_ := Aside0.mk (blk_grown (g := gb184) (o := .cells #[.int .i64 a0_0, .int .i64 a0_1, .slice A0_2 l0_2.length c0_2, .slice (some ad193) l0_3.length c0_3] 38 (0, 0)) (by (with_reducible repeat (first | refine blk_drewN ?_ _ | refine blk_drew ?_ | refine blk_alloc ?_ _)); exact BK184.out) hg (Kd.R_ne HO_4.out BK184.out (by decide))); have n2_ := Aside0.mk (blk_grown (g := gb194) (o := .cells #[.int .i64 ((rd_T73 l0_3 (rd x4_1 x5_1)).f0), .int .i64 ((rd_T73 l0_3 (rd x4_1 x5_1)).f1)] 73 (0, 0)) (by (with_reducible repeat (first | refine blk_drewN ?_ _ | refine blk_drew ?_ | refine blk_alloc ?_ _)); exact BK194.out) hg (Kd.R_ne HO_4.out BK194.out (by decide))); have n3_ := Aside0.mk (hb); have n4_ := Aside0.mk (ho); clear HO_3; clear BK184; clear BK194; clear HB; clear HO_4; have HO_3 := n0_; have BK184 := n1_; have BK194 := n2_; have HB := n3_; have HO200 := n4_; clear n0_ n1_ n2_ n3_ n4_; clear ho hb hg hat; have hnb62 := NB194_184.out; have hnc62 := NB184_194.out; have hcz63_0 : w61.cell? ⟨gb194, 0, none⟩ = some (.int .i64 ((rd_T73 l0_3 (rd x4_1 x5_1)).f0)) := (blk_cell BK194.out 0).trans rfl; have hcz63_1 : w61.cell? ⟨gb194, 1, none⟩ = some (.int .i64 ((rd_T73 l0_3 (rd x4_1 x5_1)).f1)) := (blk_cell BK194.out 1).trans rfl; have hfz63_0 := blk_frozen BK194.out 0; have hfz63_1 := blk_frozen BK194.out 1) | ((with_reducible refine gate_callee (f := 48) rfl ?_); refine goesL_ (some 65) rfl rfl Try.func48 (by kernel_rfl) rfl #[.int .i64 ((rd_T73 l0_3 (rd x4_1 x5_1)).f0)] rfl (by (try simp only [List.map_toArray, List.map_cons, List.map_nil]); first | done | rfl | (simp only [List.length_drop, List.length_take]; rfl)) ?_; (with_reducible refine (spec_l18Leads.calls ((rd_T73 l0_3 (rd x4_1 x5_1)).f0) true _ A46.out).mono ?_); rintro e w' ⟨rfl, ⟨nd, rfl⟩⟩; refine ⟨_, rfl, ?_⟩; (try (rw [drewN_self w61]; generalize hq_ : World.drewN w61 _ = w61; have n0_ : Aside0 (Kd.R (Kd.int .i64) 3 w61 w.heap.size (fun _ => True) v199 y198) := ⟨by rw [← hq_]; exact (by (with_reducible repeat (first | apply Kd.R_alloc | apply Kd.R_drewN | apply Kd.R_drew)); exact HO200.out)⟩; have n1_ : Aside0 (Kd.R Kd.bool 4 w61 w.heap.size (fun _ => True) (.slice (some ⟨go5, 0, none⟩) x3_1.length co5) y197) := ⟨by rw [← hq_]; exact (by (with_reducible repeat (first | apply Kd.R_alloc | apply Kd.R_drewN | apply Kd.R_drew)); exact HO_3.out)⟩; have n2_ : Aside0 (w61.heap[gb184]? = some (.cells #[.int .i64 a0_0, .int .i64 a0_1, .slice A0_2 l0_2.length c0_2, .slice (some ad193) l0_3.length c0_3] 38 (0, 0))) := ⟨by rw [← hq_]; exact (by (with_reducible repeat (first | refine blk_drewN ?_ _ | refine blk_drew ?_ | refine blk_alloc ?_ _)); exact BK184.out)⟩; have n3_ : Aside0 (w61.heap[gb194]? = some (.cells #[.int .i64 ((rd_T73 l0_3 (rd x4_1 x5_1)).f0), .int .i64 ((rd_T73 l0_3 (rd x4_1 x5_1)).f1)] 73 (0, 0))) := ⟨by rw [← hq_]; exact (by (with_reducible repeat (first | refine blk_drewN ?_ _ | refine blk_drew ?_ | refine blk_alloc ?_ _)); exact BK194.out)⟩; have n4_ : Aside0 (Below w.heap.size w w61) := ⟨by rw [← hq_]; exact (by repeat (first | (with_reducible first | exact HB.out | apply below_alloc | apply pw_below_drewN | apply below_drew1 | refine below_set ?_ GE184.out | refine below_set ?_ GE194.out) | exact HB.out))⟩; clear HO200 HO_3 BK184 BK194 HB hq_; have HO200 := n0_; have HO_3 := n1_; have BK184 := n2_; have BK194 := n3_; have HB := n4_; clear n0_ n1_ n2_ n3_ n4_)); (try have hcu184_0 : w61.cell? ⟨gb184, 0, none⟩ = some (.int .i64 a0_0) := (blk_cell BK184.out 0).trans rfl); (try have hcu184_1 : w61.cell? ⟨gb184, 1, none⟩ = some (.int .i64 a0_1) := (blk_cell BK184.out 1).trans rfl); (try have hcu184_2 : w61.cell? ⟨gb184, 2, none⟩ = some (.slice A0_2 l0_2.length c0_2) := (blk_cell BK184.out 2).trans rfl); (try have hcu184_3 : w61.cell? ⟨gb184, 3, none⟩ = some (.slice (some ad193) l0_3.length c0_3) := (blk_cell BK184.out 3).trans rfl); (try have hcu194_0 : w61.cell? ⟨gb194, 0, none⟩ = some (.int .i64 ((rd_T73 l0_3 (rd x4_1 x5_1)).f0)) := (blk_cell BK194.out 0).trans rfl); (try have hcu194_1 : w61.cell? ⟨gb194, 1, none⟩ = some (.int .i64 ((rd_T73 l0_3 (rd x4_1 x5_1)).f1)) := (blk_cell BK194.out 1).trans rfl); have p202 : 0 ≤ (((rd_T73 l0_3 (rd x4_1 x5_1)).f1) : Int) := of_decide_eq_true (by first | (with_reducible assumption) | assumption); have q202 : ((rd_T73 l0_3 (rd x4_1 x5_1)).f1) < (y197.length : Int) := (by have h_ : (((rd_T73 l0_3 (rd x4_1 x5_1)).f1) : Int) < ((x3_1.length : Int) : Int) := of_decide_eq_true (by first | (with_reducible assumption) | assumption); first | (have e_ := (Kd.R_reads' HO_3.out).1; omega) | simpa only [Ny197.out, List.length_set] using h_); have ql202 : ((((rd_T73 l0_3 (rd x4_1 x5_1)).f1) : Int) < ((x3_1.length : Int) : Int)) = True := eq_true (of_decide_eq_true (by first | (with_reducible assumption) | assumption)); obtain ⟨ad202, e202, hx202_0⟩ := Kd.at_bool (Kd.R_reads' HO_3.out).2.2 ((rd_T73 l0_3 (rd x4_1 x5_1)).f1) p202 q202; (try rw [← Nbq50.out] at hx202_0); obtain rfl : (⟨go5, 0, none⟩ : Addr) = ad202 := (by injection e202); (first | simp only [add_plain] at hx202_0 | simp only [add_at] at hx202_0 | simp only [Addr.add, Nat.zero_add] at hx202_0 | skip); replace p202 := eq_true p202; replace q202 := eq_true q202; have p57 : 0 ≤ (((rd_T73 l0_3 (rd x4_1 x5_1)).f1) : Int) := of_decide_eq_true (by first | (with_reducible assumption) | assumption); have q57 : (((rd_T73 l0_3 (rd x4_1 x5_1)).f1) : Int) < ((x3_1.length : Int) : Int) := of_decide_eq_true (by first | (with_reducible assumption) | assumption); obtain ⟨hx57_0, hf57_0⟩ := Kd.R_celln false HO_3.out (((rd_T73 l0_3 (rd x4_1 x5_1)).f1) : Int) p57 q57; replace p57 := eq_true p57; replace q57 := eq_true q57; obtain ⟨hy64_, hz64_⟩ := Kd.R_celln false HO_3.out (((rd_T73 l0_3 (rd x4_1 x5_1)).f1) : Int) (of_decide_eq_true (by first | (with_reducible assumption) | assumption)) (of_decide_eq_true (by first | (with_reducible assumption) | assumption)); have HP64 := Kd.R_putg HO_3.out (((rd_T73 l0_3 (rd x4_1 x5_1)).f1) : Int) true) | ((with_reducible refine gate_store (t := 4) (p := 77) rfl ?_); refine store_event (t := 4) (p := 77) (v := ?vo_w65) (w1 := (w61.setCell ⟨go5, (((rd_T73 l0_3 (rd x4_1 x5_1)).f1) : Int).toNat, none⟩ (.bool true))) ?hg ?ho ?hn ?hr ?_; (case ho => rfl); (case hg => rfl); (case hn => rfl); (case hr => first | (go_simp; done) | (go_simp; rfl)); intro w65 hw; have hg : w61.grownBy w65 (some go5) := (by rw [hw]; exact HP64.2); have hp_ : Kd.R Kd.bool 4 w65 w.heap.size (fun _ => True) (.slice (some ⟨go5, 0, none⟩) x3_1.length co5) y203 := (by rw [hw, Ny203.out]; exact HP64.1); clear HP64; have n0_ := Aside0.mk (hp_); have n1_ := Aside0.mk (blk_grown (g := gb184) (o := .cells #[.int .i64 a0_0, .int .i64 a0_1, .slice A0_2 l0_2.length c0_2, .slice (some ad193) l0_3.length c0_3] 38 (0, 0)) (by (with_reducible repeat (first | refine blk_drewN ?_ _ | refine blk_drew ?_ | refine blk_alloc ?_ _)); exact BK184.out) hg (Kd.R_ne HO_3.out BK184.out (by decide))); have n2_ := Aside0.mk (blk_grown (g := gb194) (o := .cells #[.int .i64 ((rd_T73 l0_3 (rd x4_1 x5_1)).f0), .int .i64 ((rd_T73 l0_3 (rd x4_1 x5_1)).f1)] 73 (0, 0)) (by (with_reducible repeat (first | refine blk_drewN ?_ _ | refine blk_drew ?_ | refine blk_alloc ?_ _)); exact BK194.out) hg (Kd.R_ne HO_3.out BK194.out (by decide))); have n3_ := Aside0.mk (Kd.R_over' (v := (.slice (some ⟨go5, 0, none⟩) x3_1.length co5)) (by (with_reducible repeat (first | apply Kd.R_alloc | apply Kd.R_drewN | apply Kd.R_drew)); exact HO200.out) (Kd.R_typed HO_3.out) (by decide) hg); have n4_ := Aside0.mk ((by rw [hw]; exact below_set (HB.out) GB5.out : Below w.heap.size w w65)); clear HO_3; clear BK184; clear BK194; clear HO200; clear HB; have HO_3 := n0_; have BK184 := n1_; have BK194 := n2_; have HO200 := n3_; have HB := n4_; clear n0_ n1_ n2_ n3_ n4_; clear hg hw hp_; have hcz66_0 : w65.cell? ⟨gb194, 0, none⟩ = some (.int .i64 ((rd_T73 l0_3 (rd x4_1 x5_1)).f0)) := (blk_cell BK194.out 0).trans rfl; have hcz66_1 : w65.cell? ⟨gb194, 1, none⟩ = some (.int .i64 ((rd_T73 l0_3 (rd x4_1 x5_1)).f1)) := (blk_cell BK194.out 1).trans rfl; have hfz66_0 := blk_frozen BK194.out 0; have hfz66_1 := blk_frozen BK194.out 1) | ((with_reducible refine gate_builtin (b := .append) (xs := #[.tmp 78, .tmp 81]) rfl ?_); (try (refine gate_guard (by rfl) ?_; dsimp only)); at_builtin; refine Kd.R_append (Kd.int .i64) (w0 := w) w.heap.size rfl (.tmp 78) (.tmp 81) 44 3 (.int .i64 0) 8 rfl Try.underlying44 info3 rfl (by decide) (by omega) v199 y198 ((rd_T73 l0_3 (rd x4_1 x5_1)).f1) [.int .i64 ((rd_T73 l0_3 (rd x4_1 x5_1)).f1)] (fun _ => True) (fun _ => False) rfl rfl ?aP (fun _ hk => hk.elim) ?aF ?aO ?aB ?aS ?aL ?_; (case aP => exact rfl); (case aB => exact (by repeat (first | (with_reducible first | exact HB.out | apply below_alloc | apply pw_below_drewN | apply below_drew1 | refine below_set ?_ GE184.out | refine below_set ?_ GE194.out) | exact HB.out))); (case aF => exact (fun _ _ => trivial)); (case aO => exact (by (with_reducible repeat (first | apply Kd.R_alloc | apply Kd.R_drewN | apply Kd.R_drew)); exact HO200.out)); (case aS => exact (below_size (by repeat (first | (with_reducible first | exact HB.out | apply below_alloc | apply pw_below_drewN | apply below_drew1 | refine below_set ?_ GE184.out | refine below_set ?_ GE194.out) | exact HB.out)))); (case aL => have := LMc58.out; omega); intro v205 w67 ho hb hg hat; rw [← Ny204.out] at ho; have n0_ := Aside0.mk (Kd.R_over' (by (with_reducible repeat (first | apply Kd.R_alloc | apply Kd.R_drewN | apply Kd.R_drew)); exact HO_3.out) (Kd.R_typed (by (with_reducible repeat (first | apply Kd.R_alloc | apply Kd.R_drewN | apply Kd.R_drew)); exact HO200.out)) (by decide) hg); have n1_ := Aside0.mk (blk_grown (g := gb184) (o := .cells #[.int .i64 a0_0, .int .i64 a0_1, .slice A0_2 l0_2.length c0_2, .slice (some ad193) l0_3.length c0_3] 38 (0, 0)) (by (with_reducible repeat (first | refine blk_drewN ?_ _ | refine blk_drew ?_ | refine blk_alloc ?_ _)); exact BK184.out) hg (Kd.R_ne HO200.out BK184.out (by decide))); have n2_ := Aside0.mk (blk_grown (g := gb194) (o := .cells #[.int .i64 ((rd_T73 l0_3 (rd x4_1 x5_1)).f0), .int .i64 ((rd_T73 l0_3 (rd x4_1 x5_1)).f1)] 73 (0, 0)) (by (with_reducible repeat (first | refine blk_drewN ?_ _ | refine blk_drew ?_ | refine blk_alloc ?_ _)); exact BK194.out) hg (Kd.R_ne HO200.out BK194.out (by decide))); have n3_ := Aside0.mk (hb); have n4_ := Aside0.mk (ho); clear HO_3; clear BK184; clear BK194; clear HB; clear HO200; have HO_3 := n0_; have BK184 := n1_; have BK194 := n2_; have HB := n3_; have HO206 := n4_; clear n0_ n1_ n2_ n3_ n4_; clear ho hb hg hat))
                                          (try simp only [← hl3_1])
                                          (try subst hji41)
                                          (try subst hji31)
                                          go_roundg kj17
                                          case measure => have := HK1.out; have := HJ17.out; omega
                                          case rel => exact ⟨(y203), (y204), (wrap64 (x5_1 + 1)), (by first | rfl | (simp; done) | (simp [*]; done)), H', ⟨by have := HK1.out; have := HJ17.out; omega⟩, ⟨by (try simp only [hl3_1]); (with_reducible repeat (first | apply Kd.R_alloc | apply Kd.R_drewN | apply Kd.R_drew)); exact HO_3.out⟩, ⟨by (try simp only [hl3_1]); (with_reducible repeat (first | apply Kd.R_alloc | apply Kd.R_drewN | apply Kd.R_drew)); exact HO206.out⟩, ⟨by (try simp only [hl3_1]); (with_reducible repeat (first | refine blk_drewN ?_ _ | refine blk_drew ?_ | refine blk_alloc ?_ _)); exact BK184.out⟩, ⟨by repeat (first | (with_reducible first | exact HB.out | apply below_alloc | apply pw_below_drewN | apply below_drew1 | refine below_set ?_ GE184.out | refine below_set ?_ GE194.out) | exact HB.out)⟩⟩
                                        · rw [if_neg c58] at H
                                          exact absurd H (by simp)
                                    · rw [if_neg c49] at H
                                      exact absurd H (by simp)
                                  · rw [if_neg c48] at H
                                    exact absurd H (by simp)
                                · replace c47 := Bool.eq_false_iff.mpr c47
                                  subst c47
                                  have H1 : (spec_l18Reach.l0 kj17 y197 y198 (wrap64 (x5_1 + 1)) a0_0 a0_1 l0_2 l0_3) = some r := by rw [if_neg (show ¬ (false = true) by decide)] at H; exact H
                                  clear H
                                  have H := H1
                                  clear H1
                                  have H' := Aside0.mk H
                                  clear H
                                  have p44 : 0 ≤ ((ji41) : Int) := of_decide_eq_true (by first | (with_reducible assumption) | assumption)
                                  have q44 : ((ji41) : Int) < ((x3_1.length : Int) : Int) := of_decide_eq_true (by first | (with_reducible assumption) | assumption)
                                  obtain ⟨hx44_0, hf44_0⟩ := Kd.R_celln false HO_3.out ((ji41) : Int) p44 q44
                                  replace p44 := eq_true p44
                                  replace q44 := eq_true q44
                                  have HP68 := Kd.R_putg HO_3.out ((ji41) : Int) true
                                  go_wp2_with (first | ((with_reducible refine gate_store (t := 4) (p := 58) rfl ?_); refine store_event (t := 4) (p := 58) (v := ?vo_w69) (w1 := (wc.setCell ⟨go5, ((ji41) : Int).toNat, none⟩ (.bool true))) ?hg ?ho ?hn ?hr ?_; (case ho => rfl); (case hg => rfl); (case hn => rfl); (case hr => first | (go_simp; done) | (go_simp; rfl)); intro w69 hw; have hg : wc.grownBy w69 (some go5) := (by rw [hw]; exact HP68.2); have hp_ : Kd.R Kd.bool 4 w69 w.heap.size (fun _ => True) (.slice (some ⟨go5, 0, none⟩) x3_1.length co5) y197 := (by rw [hw, Ny197.out]; exact HP68.1); clear HP68; have n0_ := Aside0.mk (hp_); have n1_ := Aside0.mk (Kd.R_over' (v := (.slice (some ⟨go5, 0, none⟩) x3_1.length co5)) (by (with_reducible repeat (first | apply Kd.R_alloc | apply Kd.R_drewN | apply Kd.R_drew)); exact HO_4.out) (Kd.R_typed HO_3.out) (by decide) hg); have n2_ := Aside0.mk (blk_grown (g := gb184) (o := .cells #[.int .i64 a0_0, .int .i64 a0_1, .slice A0_2 l0_2.length c0_2, .slice (some ad193) l0_3.length c0_3] 38 (0, 0)) (by (with_reducible repeat (first | refine blk_drewN ?_ _ | refine blk_drew ?_ | refine blk_alloc ?_ _)); exact BK184.out) hg (Kd.R_ne HO_3.out BK184.out (by decide))); have n3_ := Aside0.mk (blk_grown (g := gb194) (o := .cells #[.int .i64 ((rd_T73 l0_3 (rd x4_1 x5_1)).f0), .int .i64 ((rd_T73 l0_3 (rd x4_1 x5_1)).f1)] 73 (0, 0)) (by (with_reducible repeat (first | refine blk_drewN ?_ _ | refine blk_drew ?_ | refine blk_alloc ?_ _)); exact BK194.out) hg (Kd.R_ne HO_3.out BK194.out (by decide))); have n4_ := Aside0.mk ((by rw [hw]; exact below_set (HB.out) GB5.out : Below w.heap.size w w69)); clear HO_3; clear HO_4; clear BK184; clear BK194; clear HB; have HO_3 := n0_; have HO_4 := n1_; have BK184 := n2_; have BK194 := n3_; have HB := n4_; clear n0_ n1_ n2_ n3_ n4_; clear hg hw hp_) | ((with_reducible refine gate_builtin (b := .append) (xs := #[.tmp 59, .tmp 61]) rfl ?_); (try (refine gate_guard (by rfl) ?_; dsimp only)); at_builtin; refine Kd.R_append (Kd.int .i64) (w0 := w) w.heap.size rfl (.tmp 59) (.tmp 61) 44 3 (.int .i64 0) 8 rfl Try.underlying44 info3 rfl (by decide) (by omega) (.slice (some ad192) x4_1.length co19) x4_1 (ji41) [.int .i64 (ji41)] (fun _ => True) (fun _ => False) rfl rfl ?aP (fun _ hk => hk.elim) ?aF ?aO ?aB ?aS ?aL ?_; (case aP => exact rfl); (case aB => exact (by repeat (first | (with_reducible first | exact HB.out | apply below_alloc | apply pw_below_drewN | apply below_drew1 | refine below_set ?_ GE184.out | refine below_set ?_ GE194.out) | exact HB.out))); (case aF => exact (fun _ _ => trivial)); (case aO => exact (by (with_reducible repeat (first | apply Kd.R_alloc | apply Kd.R_drewN | apply Kd.R_drew)); exact HO_4.out)); (case aS => exact (below_size (by repeat (first | (with_reducible first | exact HB.out | apply below_alloc | apply pw_below_drewN | apply below_drew1 | refine below_set ?_ GE184.out | refine below_set ?_ GE194.out) | exact HB.out)))); (case aL => have := LMc45.out; omega); intro v199 w70 ho hb hg hat; rw [← Ny198.out] at ho; have n0_ := Aside0.mk (Kd.R_over' (by (with_reducible repeat (first | apply Kd.R_alloc | apply Kd.R_drewN | apply Kd.R_drew)); exact HO_3.out) (Kd.R_typed (by (with_reducible repeat (first | apply Kd.R_alloc | apply Kd.R_drewN | apply Kd.R_drew)); exact HO_4.out)) (by decide) hg); have n1_ := Aside0.mk (blk_grown (g := gb184) (o := .cells #[.int .i64 a0_0, .int .i64 a0_1, .slice A0_2 l0_2.length c0_2, .slice (some ad193) l0_3.length c0_3] 38 (0, 0)) (by (with_reducible repeat (first | refine blk_drewN ?_ _ | refine blk_drew ?_ | refine blk_alloc ?_ _)); exact BK184.out) hg (Kd.R_ne HO_4.out BK184.out (by decide))); have n2_ := Aside0.mk (blk_grown (g := gb194) (o := .cells #[.int .i64 ((rd_T73 l0_3 (rd x4_1 x5_1)).f0), .int .i64 ((rd_T73 l0_3 (rd x4_1 x5_1)).f1)] 73 (0, 0)) (by (with_reducible repeat (first | refine blk_drewN ?_ _ | refine blk_drew ?_ | refine blk_alloc ?_ _)); exact BK194.out) hg (Kd.R_ne HO_4.out BK194.out (by decide))); have n3_ := Aside0.mk (hb); have n4_ := Aside0.mk (ho); clear HO_3; clear BK184; clear BK194; clear HB; clear HO_4; have HO_3 := n0_; have BK184 := n1_; have BK194 := n2_; have HB := n3_; have HO200 := n4_; clear n0_ n1_ n2_ n3_ n4_; clear ho hb hg hat; have hnb71 := NB194_184.out; have hnc71 := NB184_194.out; have hcz72_0 : w70.cell? ⟨gb194, 0, none⟩ = some (.int .i64 ((rd_T73 l0_3 (rd x4_1 x5_1)).f0)) := (blk_cell BK194.out 0).trans rfl; have hcz72_1 : w70.cell? ⟨gb194, 1, none⟩ = some (.int .i64 ((rd_T73 l0_3 (rd x4_1 x5_1)).f1)) := (blk_cell BK194.out 1).trans rfl; have hfz72_0 := blk_frozen BK194.out 0; have hfz72_1 := blk_frozen BK194.out 1) | ((with_reducible refine gate_callee (f := 48) rfl ?_); refine goesL_ (some 65) rfl rfl Try.func48 (by kernel_rfl) rfl #[.int .i64 ((rd_T73 l0_3 (rd x4_1 x5_1)).f0)] rfl (by (try simp only [List.map_toArray, List.map_cons, List.map_nil]); first | done | rfl | (simp only [List.length_drop, List.length_take]; rfl)) ?_; (with_reducible refine (spec_l18Leads.calls ((rd_T73 l0_3 (rd x4_1 x5_1)).f0) false _ A46.out).mono ?_); rintro e w' ⟨rfl, ⟨nd, rfl⟩⟩; refine ⟨_, rfl, ?_⟩))
                                  (try simp only [← hl3_1])
                                  (try subst hji41)
                                  (try subst hji31)
                                  go_roundg kj17
                                  case measure => have := HK1.out; have := HJ17.out; omega
                                  case rel => exact ⟨(y197), (y198), (wrap64 (x5_1 + 1)), (by first | rfl | (simp; done) | (simp [*]; done)), H', ⟨by have := HK1.out; have := HJ17.out; omega⟩, ⟨by (try simp only [hl3_1]); (with_reducible repeat (first | apply Kd.R_alloc | apply Kd.R_drewN | apply Kd.R_drew)); exact HO_3.out⟩, ⟨by (try simp only [hl3_1]); (with_reducible repeat (first | apply Kd.R_alloc | apply Kd.R_drewN | apply Kd.R_drew)); exact HO200.out⟩, ⟨by (try simp only [hl3_1]); (with_reducible repeat (first | refine blk_drewN ?_ _ | refine blk_drew ?_ | refine blk_alloc ?_ _)); exact BK184.out⟩, ⟨by repeat (first | (with_reducible first | exact HB.out | apply below_alloc | apply pw_below_drewN | apply below_drew1 | refine below_set ?_ GE184.out | refine below_set ?_ GE194.out) | exact HB.out)⟩⟩
                              · rw [if_neg c45] at H
                                exact absurd H (by simp)
                            · rw [if_neg c43] at H
                              exact absurd H (by simp)
                          · rw [if_neg c42] at H
                            exact absurd H (by simp)
                        · replace c40 := Bool.eq_false_iff.mpr c40
                          subst c40
                          have H1 : ((spec_l18Leads.f ((rd_T73 l0_3 (rd x4_1 x5_1)).f0)).bind fun t207 => (if t207 = true then (if 0 ≤ ((rd_T73 l0_3 (rd x4_1 x5_1)).f1) then (if ((rd_T73 l0_3 (rd x4_1 x5_1)).f1) < (x3_1.length : Int) then (if rdOf false x3_1 ((rd_T73 l0_3 (rd x4_1 x5_1)).f1) = true then (spec_l18Reach.l0 kj17 x3_1 x4_1 (wrap64 (x5_1 + 1)) a0_0 a0_1 l0_2 l0_3) else (if x4_1.length < 17592186044416 then (spec_l18Reach.l0 kj17 (x3_1.set (((rd_T73 l0_3 (rd x4_1 x5_1)).f1) : Int).toNat true) (x4_1 ++ [((rd_T73 l0_3 (rd x4_1 x5_1)).f1)]) (wrap64 (x5_1 + 1)) a0_0 a0_1 l0_2 l0_3) else (none))) else (none)) else (none)) else (spec_l18Reach.l0 kj17 x3_1 x4_1 (wrap64 (x5_1 + 1)) a0_0 a0_1 l0_2 l0_3))) = some r := by rw [if_neg (show ¬ (false = true) by decide)] at H; exact H
                          clear H
                          have H := H1
                          clear H1
                          replace H := Option.bind_eq_some_iff.mp H
                          obtain ⟨t207, A730, H⟩ := H
                          replace H : (if t207 = true then (if 0 ≤ ((rd_T73 l0_3 (rd x4_1 x5_1)).f1) then (if ((rd_T73 l0_3 (rd x4_1 x5_1)).f1) < (x3_1.length : Int) then (if rdOf false x3_1 ((rd_T73 l0_3 (rd x4_1 x5_1)).f1) = true then (spec_l18Reach.l0 kj17 x3_1 x4_1 (wrap64 (x5_1 + 1)) a0_0 a0_1 l0_2 l0_3) else (if x4_1.length < 17592186044416 then (spec_l18Reach.l0 kj17 (x3_1.set (((rd_T73 l0_3 (rd x4_1 x5_1)).f1) : Int).toNat true) (x4_1 ++ [((rd_T73 l0_3 (rd x4_1 x5_1)).f1)]) (wrap64 (x5_1 + 1)) a0_0 a0_1 l0_2 l0_3) else (none))) else (none)) else (none)) else (spec_l18Reach.l0 kj17 x3_1 x4_1 (wrap64 (x5_1 + 1)) a0_0 a0_1 l0_2 l0_3)) = some r := H
                          have A73 := Aside0.mk A730
                          clear A730
                          by_cases c74 : t207 = true
                          · subst c74
                            have H1 : (if 0 ≤ ((rd_T73 l0_3 (rd x4_1 x5_1)).f1) then (if ((rd_T73 l0_3 (rd x4_1 x5_1)).f1) < (x3_1.length : Int) then (if rdOf false x3_1 ((rd_T73 l0_3 (rd x4_1 x5_1)).f1) = true then (spec_l18Reach.l0 kj17 x3_1 x4_1 (wrap64 (x5_1 + 1)) a0_0 a0_1 l0_2 l0_3) else (if x4_1.length < 17592186044416 then (spec_l18Reach.l0 kj17 (x3_1.set (((rd_T73 l0_3 (rd x4_1 x5_1)).f1) : Int).toNat true) (x4_1 ++ [((rd_T73 l0_3 (rd x4_1 x5_1)).f1)]) (wrap64 (x5_1 + 1)) a0_0 a0_1 l0_2 l0_3) else (none))) else (none)) else (none)) = some r := by rw [if_pos rfl] at H; exact H
                            clear H
                            have H := H1
                            clear H1
                            by_cases c75 : 0 ≤ ((rd_T73 l0_3 (rd x4_1 x5_1)).f1)
                            · rw [if_pos c75] at H
                              have c75b0 : decide (0 ≤ ((rd_T73 l0_3 (rd x4_1 x5_1)).f1)) = true := decide_eq_true c75
                              clear c75
                              by_cases c76 : ((rd_T73 l0_3 (rd x4_1 x5_1)).f1) < (x3_1.length : Int)
                              · rw [if_pos c76] at H
                                have c76b0 : decide (((rd_T73 l0_3 (rd x4_1 x5_1)).f1) < (x3_1.length : Int)) = true := decide_eq_true c76
                                clear c76
                                obtain ⟨bq77, hbq77⟩ : ∃ b_ : Bool, b_ = (rdOf false x3_1 ((rd_T73 l0_3 (rd x4_1 x5_1)).f1)) := ⟨_, rfl⟩
                                replace H : (if bq77 = true then (spec_l18Reach.l0 kj17 x3_1 x4_1 (wrap64 (x5_1 + 1)) a0_0 a0_1 l0_2 l0_3) else (if x4_1.length < 17592186044416 then (spec_l18Reach.l0 kj17 (x3_1.set (((rd_T73 l0_3 (rd x4_1 x5_1)).f1) : Int).toNat true) (x4_1 ++ [((rd_T73 l0_3 (rd x4_1 x5_1)).f1)]) (wrap64 (x5_1 + 1)) a0_0 a0_1 l0_2 l0_3) else (none))) = some r := by rw [← hbq77] at H; exact H
                                have Nbq77 := Aside0.mk hbq77
                                clear hbq77
                                by_cases c78 : bq77 = true
                                · subst c78
                                  have H1 : (spec_l18Reach.l0 kj17 x3_1 x4_1 (wrap64 (x5_1 + 1)) a0_0 a0_1 l0_2 l0_3) = some r := by rw [if_pos rfl] at H; exact H
                                  clear H
                                  have H := H1
                                  clear H1
                                  have H' := Aside0.mk H
                                  clear H
                                  have hnb79 := NB194_184.out
                                  have hnc79 := NB184_194.out
                                  have hcz80_0 : wc.cell? ⟨gb194, 0, none⟩ = some (.int .i64 ((rd_T73 l0_3 (rd x4_1 x5_1)).f0)) := (blk_cell BK194.out 0).trans rfl
                                  have hcz80_1 : wc.cell? ⟨gb194, 1, none⟩ = some (.int .i64 ((rd_T73 l0_3 (rd x4_1 x5_1)).f1)) := (blk_cell BK194.out 1).trans rfl
                                  have hfz80_0 := blk_frozen BK194.out 0
                                  have hfz80_1 := blk_frozen BK194.out 1
                                  go_wp2_with (first | ((with_reducible refine gate_callee (f := 48) rfl ?_); refine goesL_ (some 65) rfl rfl Try.func48 (by kernel_rfl) rfl #[.int .i64 ((rd_T73 l0_3 (rd x4_1 x5_1)).f0)] rfl (by (try simp only [List.map_toArray, List.map_cons, List.map_nil]); first | done | rfl | (simp only [List.length_drop, List.length_take]; rfl)) ?_; (with_reducible refine (spec_l18Leads.calls ((rd_T73 l0_3 (rd x4_1 x5_1)).f0) true _ A73.out).mono ?_); rintro e w' ⟨rfl, ⟨nd, rfl⟩⟩; refine ⟨_, rfl, ?_⟩; have p208 : 0 ≤ (((rd_T73 l0_3 (rd x4_1 x5_1)).f1) : Int) := of_decide_eq_true (by first | (with_reducible assumption) | assumption); have q208 : ((rd_T73 l0_3 (rd x4_1 x5_1)).f1) < (x3_1.length : Int) := of_decide_eq_true (by first | (with_reducible assumption) | assumption); obtain ⟨ad208, e208, hx208_0⟩ := Kd.at_bool (Kd.R_reads' HO_3.out).2.2 ((rd_T73 l0_3 (rd x4_1 x5_1)).f1) p208 q208; (try rw [← Nbq77.out] at hx208_0); obtain rfl : (⟨go5, 0, none⟩ : Addr) = ad208 := (by injection e208); (first | simp only [add_plain] at hx208_0 | simp only [add_at] at hx208_0 | simp only [Addr.add, Nat.zero_add] at hx208_0 | skip); replace p208 := eq_true p208; replace q208 := eq_true q208))
                                  (try simp only [← hl3_1])
                                  (try subst hji41)
                                  (try subst hji31)
                                  go_roundg kj17
                                  case measure => have := HK1.out; have := HJ17.out; omega
                                  case rel => exact ⟨(x3_1), (x4_1), (wrap64 (x5_1 + 1)), (by first | rfl | (simp; done) | (simp [*]; done)), H', ⟨by have := HK1.out; have := HJ17.out; omega⟩, ⟨by (try simp only [hl3_1]); (with_reducible repeat (first | apply Kd.R_alloc | apply Kd.R_drewN | apply Kd.R_drew)); exact HO_3.out⟩, ⟨by (try simp only [hl3_1]); (with_reducible repeat (first | apply Kd.R_alloc | apply Kd.R_drewN | apply Kd.R_drew)); exact HO_4.out⟩, ⟨by (try simp only [hl3_1]); (with_reducible repeat (first | refine blk_drewN ?_ _ | refine blk_drew ?_ | refine blk_alloc ?_ _)); exact BK184.out⟩, ⟨by repeat (first | (with_reducible first | exact HB.out | apply below_alloc | apply pw_below_drewN | apply below_drew1 | refine below_set ?_ GE184.out | refine below_set ?_ GE194.out) | exact HB.out)⟩⟩
                                · replace c78 := Bool.eq_false_iff.mpr c78
                                  subst c78
                                  have H1 : (if x4_1.length < 17592186044416 then (spec_l18Reach.l0 kj17 (x3_1.set (((rd_T73 l0_3 (rd x4_1 x5_1)).f1) : Int).toNat true) (x4_1 ++ [((rd_T73 l0_3 (rd x4_1 x5_1)).f1)]) (wrap64 (x5_1 + 1)) a0_0 a0_1 l0_2 l0_3) else (none)) = some r := by rw [if_neg (show ¬ (false = true) by decide)] at H; exact H
                                  clear H
                                  have H := H1
                                  clear H1
                                  obtain ⟨y209, hy209⟩ : ∃ y_ : List Bool, y_ = (x3_1.set (((rd_T73 l0_3 (rd x4_1 x5_1)).f1) : Int).toNat true) := ⟨_, rfl⟩
                                  replace H : (if x4_1.length < 17592186044416 then (spec_l18Reach.l0 kj17 y209 (x4_1 ++ [((rd_T73 l0_3 (rd x4_1 x5_1)).f1)]) (wrap64 (x5_1 + 1)) a0_0 a0_1 l0_2 l0_3) else (none)) = some r := by first | (rw [hy209]; with_reducible exact H) | (have H2_ := (Option.bind_some _ _).symm.trans H; rw [hy209]; with_reducible exact H2_) | (have H2_ := (Option.bind_some _ _).symm.trans H; with_reducible exact H2_) | with_reducible exact H | (rw [hy209]; exact H) | exact H
                                  have Ny209 := Aside0.mk hy209
                                  clear hy209
                                  by_cases c82 : x4_1.length < 17592186044416
                                  · rw [if_pos c82] at H
                                    have LMc82 := Aside0.mk c82
                                    clear c82
                                    obtain ⟨y210, hy210⟩ : ∃ y_ : List Int, y_ = (x4_1 ++ [((rd_T73 l0_3 (rd x4_1 x5_1)).f1)]) := ⟨_, rfl⟩
                                    replace H : (spec_l18Reach.l0 kj17 y209 y210 (wrap64 (x5_1 + 1)) a0_0 a0_1 l0_2 l0_3) = some r := by first | (rw [hy210]; with_reducible exact H) | (have H2_ := (Option.bind_some _ _).symm.trans H; rw [hy210]; with_reducible exact H2_) | (have H2_ := (Option.bind_some _ _).symm.trans H; with_reducible exact H2_) | with_reducible exact H | (rw [hy210]; exact H) | exact H
                                    have Ny210 := Aside0.mk hy210
                                    clear hy210
                                    have H' := Aside0.mk H
                                    clear H
                                    have hnb83 := NB194_184.out
                                    have hnc83 := NB184_194.out
                                    have hcz84_0 : wc.cell? ⟨gb194, 0, none⟩ = some (.int .i64 ((rd_T73 l0_3 (rd x4_1 x5_1)).f0)) := (blk_cell BK194.out 0).trans rfl
                                    have hcz84_1 : wc.cell? ⟨gb194, 1, none⟩ = some (.int .i64 ((rd_T73 l0_3 (rd x4_1 x5_1)).f1)) := (blk_cell BK194.out 1).trans rfl
                                    have hfz84_0 := blk_frozen BK194.out 0
                                    have hfz84_1 := blk_frozen BK194.out 1
                                    go_wp2_with (first | ((with_reducible refine gate_callee (f := 48) rfl ?_); refine goesL_ (some 65) rfl rfl Try.func48 (by kernel_rfl) rfl #[.int .i64 ((rd_T73 l0_3 (rd x4_1 x5_1)).f0)] rfl (by (try simp only [List.map_toArray, List.map_cons, List.map_nil]); first | done | rfl | (simp only [List.length_drop, List.length_take]; rfl)) ?_; (with_reducible refine (spec_l18Leads.calls ((rd_T73 l0_3 (rd x4_1 x5_1)).f0) true _ A73.out).mono ?_); rintro e w' ⟨rfl, ⟨nd, rfl⟩⟩; refine ⟨_, rfl, ?_⟩; (try (rw [drewN_self wc]; generalize hq_ : World.drewN wc _ = wc; have n0_ : Aside0 (Kd.R Kd.bool 4 wc w.heap.size (fun _ => True) (.slice (some ⟨go5, 0, none⟩) x3_1.length co5) x3_1) := ⟨by rw [← hq_]; exact (by (with_reducible repeat (first | apply Kd.R_alloc | apply Kd.R_drewN | apply Kd.R_drew)); exact HO_3.out)⟩; have n1_ : Aside0 (Kd.R (Kd.int .i64) 3 wc w.heap.size (fun _ => True) (.slice (some ad192) x4_1.length co19) x4_1) := ⟨by rw [← hq_]; exact (by (with_reducible repeat (first | apply Kd.R_alloc | apply Kd.R_drewN | apply Kd.R_drew)); exact HO_4.out)⟩; have n2_ : Aside0 (wc.heap[gb184]? = some (.cells #[.int .i64 a0_0, .int .i64 a0_1, .slice A0_2 l0_2.length c0_2, .slice (some ad193) l0_3.length c0_3] 38 (0, 0))) := ⟨by rw [← hq_]; exact (by (with_reducible repeat (first | refine blk_drewN ?_ _ | refine blk_drew ?_ | refine blk_alloc ?_ _)); exact BK184.out)⟩; have n3_ : Aside0 (wc.heap[gb194]? = some (.cells #[.int .i64 ((rd_T73 l0_3 (rd x4_1 x5_1)).f0), .int .i64 ((rd_T73 l0_3 (rd x4_1 x5_1)).f1)] 73 (0, 0))) := ⟨by rw [← hq_]; exact (by (with_reducible repeat (first | refine blk_drewN ?_ _ | refine blk_drew ?_ | refine blk_alloc ?_ _)); exact BK194.out)⟩; have n4_ : Aside0 (Below w.heap.size w wc) := ⟨by rw [← hq_]; exact (by repeat (first | (with_reducible first | exact HB.out | apply below_alloc | apply pw_below_drewN | apply below_drew1 | refine below_set ?_ GE184.out | refine below_set ?_ GE194.out) | exact HB.out))⟩; clear HO_3 HO_4 BK184 BK194 HB hq_; have HO_3 := n0_; have HO_4 := n1_; have BK184 := n2_; have BK194 := n3_; have HB := n4_; clear n0_ n1_ n2_ n3_ n4_)); (try have hcu184_0 : wc.cell? ⟨gb184, 0, none⟩ = some (.int .i64 a0_0) := (blk_cell BK184.out 0).trans rfl); (try have hcu184_1 : wc.cell? ⟨gb184, 1, none⟩ = some (.int .i64 a0_1) := (blk_cell BK184.out 1).trans rfl); (try have hcu184_2 : wc.cell? ⟨gb184, 2, none⟩ = some (.slice A0_2 l0_2.length c0_2) := (blk_cell BK184.out 2).trans rfl); (try have hcu184_3 : wc.cell? ⟨gb184, 3, none⟩ = some (.slice (some ad193) l0_3.length c0_3) := (blk_cell BK184.out 3).trans rfl); (try have hcu194_0 : wc.cell? ⟨gb194, 0, none⟩ = some (.int .i64 ((rd_T73 l0_3 (rd x4_1 x5_1)).f0)) := (blk_cell BK194.out 0).trans rfl); (try have hcu194_1 : wc.cell? ⟨gb194, 1, none⟩ = some (.int .i64 ((rd_T73 l0_3 (rd x4_1 x5_1)).f1)) := (blk_cell BK194.out 1).trans rfl); have p208 : 0 ≤ (((rd_T73 l0_3 (rd x4_1 x5_1)).f1) : Int) := of_decide_eq_true (by first | (with_reducible assumption) | assumption); have q208 : ((rd_T73 l0_3 (rd x4_1 x5_1)).f1) < (x3_1.length : Int) := of_decide_eq_true (by first | (with_reducible assumption) | assumption); obtain ⟨ad208, e208, hx208_0⟩ := Kd.at_bool (Kd.R_reads' HO_3.out).2.2 ((rd_T73 l0_3 (rd x4_1 x5_1)).f1) p208 q208; (try rw [← Nbq77.out] at hx208_0); obtain rfl : (⟨go5, 0, none⟩ : Addr) = ad208 := (by injection e208); (first | simp only [add_plain] at hx208_0 | simp only [add_at] at hx208_0 | simp only [Addr.add, Nat.zero_add] at hx208_0 | skip); replace p208 := eq_true p208; replace q208 := eq_true q208; have p81 : 0 ≤ (((rd_T73 l0_3 (rd x4_1 x5_1)).f1) : Int) := of_decide_eq_true (by first | (with_reducible assumption) | assumption); have q81 : (((rd_T73 l0_3 (rd x4_1 x5_1)).f1) : Int) < ((x3_1.length : Int) : Int) := of_decide_eq_true (by first | (with_reducible assumption) | assumption); obtain ⟨hx81_0, hf81_0⟩ := Kd.R_celln false HO_3.out (((rd_T73 l0_3 (rd x4_1 x5_1)).f1) : Int) p81 q81; replace p81 := eq_true p81; replace q81 := eq_true q81; obtain ⟨hy85_, hz85_⟩ := Kd.R_celln false HO_3.out (((rd_T73 l0_3 (rd x4_1 x5_1)).f1) : Int) (of_decide_eq_true (by first | (with_reducible assumption) | assumption)) (of_decide_eq_true (by first | (with_reducible assumption) | assumption)); have HP85 := Kd.R_putg HO_3.out (((rd_T73 l0_3 (rd x4_1 x5_1)).f1) : Int) true) | ((with_reducible refine gate_store (t := 4) (p := 77) rfl ?_); refine store_event (t := 4) (p := 77) (v := ?vo_w86) (w1 := (wc.setCell ⟨go5, (((rd_T73 l0_3 (rd x4_1 x5_1)).f1) : Int).toNat, none⟩ (.bool true))) ?hg ?ho ?hn ?hr ?_; (case ho => rfl); (case hg => rfl); (case hn => rfl); (case hr => first | (go_simp; done) | (go_simp; rfl)); intro w86 hw; have hg : wc.grownBy w86 (some go5) := (by rw [hw]; exact HP85.2); have hp_ : Kd.R Kd.bool 4 w86 w.heap.size (fun _ => True) (.slice (some ⟨go5, 0, none⟩) x3_1.length co5) y209 := (by rw [hw, Ny209.out]; exact HP85.1); clear HP85; have n0_ := Aside0.mk (hp_); have n1_ := Aside0.mk (Kd.R_over' (v := (.slice (some ⟨go5, 0, none⟩) x3_1.length co5)) (by (with_reducible repeat (first | apply Kd.R_alloc | apply Kd.R_drewN | apply Kd.R_drew)); exact HO_4.out) (Kd.R_typed HO_3.out) (by decide) hg); have n2_ := Aside0.mk (blk_grown (g := gb184) (o := .cells #[.int .i64 a0_0, .int .i64 a0_1, .slice A0_2 l0_2.length c0_2, .slice (some ad193) l0_3.length c0_3] 38 (0, 0)) (by (with_reducible repeat (first | refine blk_drewN ?_ _ | refine blk_drew ?_ | refine blk_alloc ?_ _)); exact BK184.out) hg (Kd.R_ne HO_3.out BK184.out (by decide))); have n3_ := Aside0.mk (blk_grown (g := gb194) (o := .cells #[.int .i64 ((rd_T73 l0_3 (rd x4_1 x5_1)).f0), .int .i64 ((rd_T73 l0_3 (rd x4_1 x5_1)).f1)] 73 (0, 0)) (by (with_reducible repeat (first | refine blk_drewN ?_ _ | refine blk_drew ?_ | refine blk_alloc ?_ _)); exact BK194.out) hg (Kd.R_ne HO_3.out BK194.out (by decide))); have n4_ := Aside0.mk ((by rw [hw]; exact below_set (HB.out) GB5.out : Below w.heap.size w w86)); clear HO_3; clear HO_4; clear BK184; clear BK194; clear HB; have HO_3 := n0_; have HO_4 := n1_; have BK184 := n2_; have BK194 := n3_; have HB := n4_; clear n0_ n1_ n2_ n3_ n4_; clear hg hw hp_; have hcz87_0 : w86.cell? ⟨gb194, 0, none⟩ = some (.int .i64 ((rd_T73 l0_3 (rd x4_1 x5_1)).f0)) := (blk_cell BK194.out 0).trans rfl; have hcz87_1 : w86.cell? ⟨gb194, 1, none⟩ = some (.int .i64 ((rd_T73 l0_3 (rd x4_1 x5_1)).f1)) := (blk_cell BK194.out 1).trans rfl; have hfz87_0 := blk_frozen BK194.out 0; have hfz87_1 := blk_frozen BK194.out 1) | ((with_reducible refine gate_builtin (b := .append) (xs := #[.tmp 78, .tmp 81]) rfl ?_); (try (refine gate_guard (by rfl) ?_; dsimp only)); at_builtin; refine Kd.R_append (Kd.int .i64) (w0 := w) w.heap.size rfl (.tmp 78) (.tmp 81) 44 3 (.int .i64 0) 8 rfl Try.underlying44 info3 rfl (by decide) (by omega) (.slice (some ad192) x4_1.length co19) x4_1 ((rd_T73 l0_3 (rd x4_1 x5_1)).f1) [.int .i64 ((rd_T73 l0_3 (rd x4_1 x5_1)).f1)] (fun _ => True) (fun _ => False) rfl rfl ?aP (fun _ hk => hk.elim) ?aF ?aO ?aB ?aS ?aL ?_; (case aP => exact rfl); (case aB => exact (by repeat (first | (with_reducible first | exact HB.out | apply below_alloc | apply pw_below_drewN | apply below_drew1 | refine below_set ?_ GE184.out | refine below_set ?_ GE194.out) | exact HB.out))); (case aF => exact (fun _ _ => trivial)); (case aO => exact (by (with_reducible repeat (first | apply Kd.R_alloc | apply Kd.R_drewN | apply Kd.R_drew)); exact HO_4.out)); (case aS => exact (below_size (by repeat (first | (with_reducible first | exact HB.out | apply below_alloc | apply pw_below_drewN | apply below_drew1 | refine below_set ?_ GE184.out | refine below_set ?_ GE194.out) | exact HB.out)))); (case aL => have := LMc82.out; omega); intro v211 w88 ho hb hg hat; rw [← Ny210.out] at ho; have n0_ := Aside0.mk (Kd.R_over' (by (with_reducible repeat (first | apply Kd.R_alloc | apply Kd.R_drewN | apply Kd.R_drew)); exact HO_3.out) (Kd.R_typed (by (with_reducible repeat (first | apply Kd.R_alloc | apply Kd.R_drewN | apply Kd.R_drew)); exact HO_4.out)) (by decide) hg); have n1_ := Aside0.mk (blk_grown (g := gb184) (o := .cells #[.int .i64 a0_0, .int .i64 a0_1, .slice A0_2 l0_2.length c0_2, .slice (some ad193) l0_3.length c0_3] 38 (0, 0)) (by (with_reducible repeat (first | refine blk_drewN ?_ _ | refine blk_drew ?_ | refine blk_alloc ?_ _)); exact BK184.out) hg (Kd.R_ne HO_4.out BK184.out (by decide))); have n2_ := Aside0.mk (blk_grown (g := gb194) (o := .cells #[.int .i64 ((rd_T73 l0_3 (rd x4_1 x5_1)).f0), .int .i64 ((rd_T73 l0_3 (rd x4_1 x5_1)).f1)] 73 (0, 0)) (by (with_reducible repeat (first | refine blk_drewN ?_ _ | refine blk_drew ?_ | refine blk_alloc ?_ _)); exact BK194.out) hg (Kd.R_ne HO_4.out BK194.out (by decide))); have n3_ := Aside0.mk (hb); have n4_ := Aside0.mk (ho); clear HO_3; clear BK184; clear BK194; clear HB; clear HO_4; have HO_3 := n0_; have BK184 := n1_; have BK194 := n2_; have HB := n3_; have HO212 := n4_; clear n0_ n1_ n2_ n3_ n4_; clear ho hb hg hat))
                                    (try simp only [← hl3_1])
                                    (try subst hji41)
                                    (try subst hji31)
                                    go_roundg kj17
                                    case measure => have := HK1.out; have := HJ17.out; omega
                                    case rel => exact ⟨(y209), (y210), (wrap64 (x5_1 + 1)), (by first | rfl | (simp; done) | (simp [*]; done)), H', ⟨by have := HK1.out; have := HJ17.out; omega⟩, ⟨by (try simp only [hl3_1]); (with_reducible repeat (first | apply Kd.R_alloc | apply Kd.R_drewN | apply Kd.R_drew)); exact HO_3.out⟩, ⟨by (try simp only [hl3_1]); (with_reducible repeat (first | apply Kd.R_alloc | apply Kd.R_drewN | apply Kd.R_drew)); exact HO212.out⟩, ⟨by (try simp only [hl3_1]); (with_reducible repeat (first | refine blk_drewN ?_ _ | refine blk_drew ?_ | refine blk_alloc ?_ _)); exact BK184.out⟩, ⟨by repeat (first | (with_reducible first | exact HB.out | apply below_alloc | apply pw_below_drewN | apply below_drew1 | refine below_set ?_ GE184.out | refine below_set ?_ GE194.out) | exact HB.out)⟩⟩
                                  · rw [if_neg c82] at H
                                    exact absurd H (by simp)
                              · rw [if_neg c76] at H
                                exact absurd H (by simp)
                            · rw [if_neg c75] at H
                              exact absurd H (by simp)
                          · replace c74 := Bool.eq_false_iff.mpr c74
                            subst c74
                            have H1 : (spec_l18Reach.l0 kj17 x3_1 x4_1 (wrap64 (x5_1 + 1)) a0_0 a0_1 l0_2 l0_3) = some r := by rw [if_neg (show ¬ (false = true) by decide)] at H; exact H
                            clear H
                            have H := H1
                            clear H1
                            have H' := Aside0.mk H
                            clear H
                            have hnb89 := NB194_184.out
                            have hnc89 := NB184_194.out
                            have hcz90_0 : wc.cell? ⟨gb194, 0, none⟩ = some (.int .i64 ((rd_T73 l0_3 (rd x4_1 x5_1)).f0)) := (blk_cell BK194.out 0).trans rfl
                            have hcz90_1 : wc.cell? ⟨gb194, 1, none⟩ = some (.int .i64 ((rd_T73 l0_3 (rd x4_1 x5_1)).f1)) := (blk_cell BK194.out 1).trans rfl
                            have hfz90_0 := blk_frozen BK194.out 0
                            have hfz90_1 := blk_frozen BK194.out 1
                            go_wp2_with (first | ((with_reducible refine gate_callee (f := 48) rfl ?_); refine goesL_ (some 65) rfl rfl Try.func48 (by kernel_rfl) rfl #[.int .i64 ((rd_T73 l0_3 (rd x4_1 x5_1)).f0)] rfl (by (try simp only [List.map_toArray, List.map_cons, List.map_nil]); first | done | rfl | (simp only [List.length_drop, List.length_take]; rfl)) ?_; (with_reducible refine (spec_l18Leads.calls ((rd_T73 l0_3 (rd x4_1 x5_1)).f0) false _ A73.out).mono ?_); rintro e w' ⟨rfl, ⟨nd, rfl⟩⟩; refine ⟨_, rfl, ?_⟩))
                            (try simp only [← hl3_1])
                            (try subst hji41)
                            (try subst hji31)
                            go_roundg kj17
                            case measure => have := HK1.out; have := HJ17.out; omega
                            case rel => exact ⟨(x3_1), (x4_1), (wrap64 (x5_1 + 1)), (by first | rfl | (simp; done) | (simp [*]; done)), H', ⟨by have := HK1.out; have := HJ17.out; omega⟩, ⟨by (try simp only [hl3_1]); (with_reducible repeat (first | apply Kd.R_alloc | apply Kd.R_drewN | apply Kd.R_drew)); exact HO_3.out⟩, ⟨by (try simp only [hl3_1]); (with_reducible repeat (first | apply Kd.R_alloc | apply Kd.R_drewN | apply Kd.R_drew)); exact HO_4.out⟩, ⟨by (try simp only [hl3_1]); (with_reducible repeat (first | refine blk_drewN ?_ _ | refine blk_drew ?_ | refine blk_alloc ?_ _)); exact BK184.out⟩, ⟨by repeat (first | (with_reducible first | exact HB.out | apply below_alloc | apply pw_below_drewN | apply below_drew1 | refine below_set ?_ GE184.out | refine below_set ?_ GE194.out) | exact HB.out)⟩⟩
                  · rw [if_neg c17] at H
                    exact absurd H (by simp)
                · rw [if_neg c16] at H
                  exact absurd H (by simp)
              · rw [if_neg c15] at H
                exact absurd H (by simp)
            · rw [if_neg c14] at H
              have c14b0 : decide (x5_1 < (x4_1.length : Int)) = false := decide_eq_false c14
              clear c14
              obtain rfl := Option.some.inj H
              obtain ⟨Ao91, co91, eo91⟩ := Kd.R_slice HO_4.out
              subst eo91
              go_wp2
              go_ret
              exact ⟨_, by first | rfl | (simp [errW_none, errW_some] <;> rfl) | (simp [*, errW_none, errW_some] <;> rfl), by (with_reducible repeat (first | apply Kd.R_alloc | apply Kd.R_drewN | apply Kd.R_drew)); exact HO_3.out, by repeat (first | (with_reducible first | exact HB.out | apply below_alloc | apply pw_below_drewN | apply below_drew1 | refine below_set ?_ GE184.out) | exact HB.out)⟩
      · rw [if_neg c4] at H
        exact absurd H (by simp)
    · rw [if_neg c3] at H
      exact absurd H (by simp)
  · rw [if_neg c2] at H
    exact absurd H (by simp)

end Go.Proofs.Ytcbjdodehjpddaa.PFnExactStrip
