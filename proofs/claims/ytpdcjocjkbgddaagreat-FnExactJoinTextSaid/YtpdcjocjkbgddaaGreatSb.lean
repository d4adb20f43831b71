/- The laws' functions over arenas. -/
import Derived.Test.YtpdcjocjkbgddaaGreatSa
import Derived.Test.YtpdcjocjkbgddaaGreatRc
namespace Go.Proofs.YtpdcjocjkbgddaaGreat.Abs
open Go.RowKit
set_option linter.unusedVariables false
set_option linter.unusedSimpArgs false
set_option maxRecDepth 20000
set_option maxHeartbeats 1000000
abbrev ArT := List U64 × Int × Int × Int × Bool × Int × Int × Int × Int × List Vl
abbrev ArH := Sl × Int × Int × Int × Bool × Int × Int × Int × Int × Sl
def dAr : Ds ArT := .pair (.rows U64) (.pair (.flat Int) (.pair (.flat Int) (.pair (.flat Int) (.pair (.flat Bool) (.pair (.flat Int) (.pair (.flat Int) (.pair (.flat Int) (.pair (.flat Int) (.rows Vl)))))))))
def vAr (h : ArH) : Value := .agg #[vs h.1, .int .i64 h.2.1, .int .i64 h.2.2.1, .int .i64 h.2.2.2.1, .bool h.2.2.2.2.1, .int .i64 h.2.2.2.2.2.1, .int .i64 h.2.2.2.2.2.2.1, .int .i64 h.2.2.2.2.2.2.2.1, .int .i64 h.2.2.2.2.2.2.2.2.1, vs h.2.2.2.2.2.2.2.2.2]
abbrev ArT.ws (x : ArT) : List U64 := x.1
abbrev ArT.rs (x : ArT) : List Vl := x.2.2.2.2.2.2.2.2.2
def arOf (x : ArT) : Ar := ⟨x.1, x.2.1, x.2.2.1, x.2.2.2.1, x.2.2.2.2.1, x.2.2.2.2.2.1, x.2.2.2.2.2.2.1, x.2.2.2.2.2.2.2.1, x.2.2.2.2.2.2.2.2.1, x.2.2.2.2.2.2.2.2.2⟩
instance : DecidableEq Vl := inferInstance
instance : DecidableEq (List Vl) := inferInstance
instance : DecidableEq (Int × Int × List Vl) := inferInstance
instance : DecidableEq (Int × Int × Int × Int × List Vl) := inferInstance
instance : DecidableEq (Int × Bool × Int × Int × Int × Int × List Vl) := inferInstance
instance : DecidableEq (Int × Int × Int × Bool × Int × Int × Int × Int × List Vl) := inferInstance
instance : DecidableEq ArT := inferInstance
def okAr (x : ArT) : Prop := okR x.ws ∧ okR x.rs
def bgAr (x : ArT) : Prop := big x.ws ∧ big x.rs ∧ ∀ w ∈ x.1, inW w.v
def cntAr (x : ArT) : Nat := x.1.length + 2 * x.2.2.2.2.2.2.2.2.2.length
def mkAr (k : Int) (x : ArT) : ArT := (mkU64 k x.1, x.2.1, x.2.2.1, x.2.2.2.1, x.2.2.2.2.1, x.2.2.2.2.2.1, x.2.2.2.2.2.2.1, x.2.2.2.2.2.2.2.1, x.2.2.2.2.2.2.2.2.1, mkVl (k + x.ws.length) x.2.2.2.2.2.2.2.2.2)
/-- What one's own rows say beside: there is room for them. -/
theorem own_cap {m : Mem} {s : Sl} {l : List U64} {D : List Nat} (h : OwnL m s l D) : s.n ≤ s.c := by
  obtain ⟨h1, ⟨_, h2, h3, _⟩ | ⟨g, t, spare, _, _, _, h3⟩⟩ := h
  · rw [h1, h3]; exact Nat.zero_le _
  · have e : Enc.s U64 = 1 := rfl
    rw [e, Nat.mul_one, Nat.mul_one] at h3
    omega
def s7 : Spec := szB dAr vAr bgAr okAr
theorem f7 (t : Tab) (h23 : look t 23 = s23) (h24 : look t 24 = s24) : ∀ args m Q, s7 args m Q → FA Tryz.prog (look t) kp7 Tryz.f7 args m Q := by
  rintro args m Q ⟨(⟨⟨wa, wn, wc⟩, se, to, top, cy, sc, ol, co, sr, ⟨ra, rn, rc⟩⟩ : ArH), x, k, rfl, ⟨hw, _, _, _, _, _, _, _, _, hr⟩, ⟨hb1, hb2, _⟩, h0, h1, h⟩
  show FA Tryz.prog (look t) kp7 Tryz.f7 [.agg #[.slice wa wn wc, .int .i64 se, .int .i64 to, .int .i64 top, .bool cy, .int .i64 sc, .int .i64 ol, .int .i64 co, .int .i64 sr, .slice ra rn rc], .int .i64 k] m Q
  rw [e7]
  refine newA_intro fun g1 m2 hg1 e2 hbl hle2 => ⟨_, _, _, cell_of hbl 0, via h23 ⟨(⟨wa, wn, wc⟩ : Sl), x.1, k, rfl, (Ds.rows U64).at_le hle2 hw, hb1, h0, h1, fun r hr1 => ⟨_, rfl, ?_⟩⟩⟩
  by_cases hk : r < 0
  · rw [if_pos (by simpa using hk)]; exact ret_intro hle2 (h _ (.inl (by decide)))
  rw [if_neg (by simpa using hk)]
  obtain ⟨r0, r1, r2⟩ := hr1.resolve_left hk
  refine ⟨_, _, _, cell_of hbl 9, via h24 ⟨(⟨ra, rn, rc⟩ : Sl), x.2.2.2.2.2.2.2.2.2, r, rfl, (Ds.rows Vl).at_le hle2 hr, hb2, by omega, by omega, fun r' hr2 => ⟨_, rfl, ?_⟩⟩⟩
  by_cases hk2 : r' < 0
  · rw [if_pos (by simpa using hk2)]; exact ret_intro hle2 (h _ (.inl (by decide)))
  rw [if_neg (by simpa using hk2)]
  obtain ⟨q0, q1, q2⟩ := hr2.resolve_left hk2
  exact ret_intro hle2 (h _ (.inr ⟨by omega, by omega, r2, q2⟩))
theorem setAll_ar {wa ra : Option Addr} {wn wc rn rc : Nat} {se to top sc ol co sr : Int} {cy : Bool} : setAll #[.slice none 0 0, .int .i64 0, .int .i64 0, .int .i64 0, .bool false, .int .i64 0, .int .i64 0, .int .i64 0, .int .i64 0, .slice none 0 0] 0 [.slice wa wn wc, .int .i64 se, .int .i64 to, .int .i64 top, .bool cy, .int .i64 sc, .int .i64 ol, .int .i64 co, .int .i64 sr, .slice ra rn rc] = #[.slice wa wn wc, .int .i64 se, .int .i64 to, .int .i64 top, .bool cy, .int .i64 sc, .int .i64 ol, .int .i64 co, .int .i64 sr, .slice ra rn rc] := by kernel_rfl
/-- A whole arena is put into a block. -/
theorem sto_ar {m : Mem} {g : Nat} {K : Mem → Prop} {wa ra : Option Addr} {wn wc rn rc : Nat} {se to top sc ol co sr : Int} {cy : Bool} (h : m g = some (.cells #[.slice none 0 0, .int .i64 0, .int .i64 0, .int .i64 0, .bool false, .int .i64 0, .int .i64 0, .int .i64 0, .int .i64 0, .slice none 0 0] 29 (0, 0))) (hK : ∀ m', m' = m.upd g (.cells #[.slice wa wn wc, .int .i64 se, .int .i64 to, .int .i64 top, .bool cy, .int .i64 sc, .int .i64 ol, .int .i64 co, .int .i64 sr, .slice ra rn rc] 29 (0, 0)) → m' g = some (.cells #[.slice wa wn wc, .int .i64 se, .int .i64 to, .int .i64 top, .bool cy, .int .i64 sc, .int .i64 ol, .int .i64 co, .int .i64 sr, .slice ra rn rc] 29 (0, 0)) → (∀ b, b ≠ g → m' b = m b) → K m') : stoA m ⟨g, 0, none⟩ [.slice wa wn wc, .int .i64 se, .int .i64 to, .int .i64 top, .bool cy, .int .i64 sc, .int .i64 ol, .int .i64 co, .int .i64 sr, .slice ra rn rc] K := by
  refine sto h rfl (by simp) fun m' e q ne => ?_
  rw [setAll_ar] at e q
  exact hK m' e q ne
def s9 : Spec := toS dAr vAr vAr okAr
theorem f9 (t : Tab) (h29 : look t 29 = s29) (h30 : look t 30 = s30) : ∀ args m Q, s9 args m Q → FA Tryz.prog (look t) kp9 Tryz.f9 args m Q := by
  rintro args m Q ⟨(⟨⟨wa, wn, wc⟩, se, to, top, cy, sc, ol, co, sr, ⟨ra, rn, rc⟩⟩ : ArH), x, rfl, ⟨hw, i1, i2, i3, i4, i5, i6, i7, i8, hr⟩, ⟨hok1, hok2⟩, h⟩
  show FA Tryz.prog (look t) kp9 Tryz.f9 [.agg #[.slice wa wn wc, .int .i64 se, .int .i64 to, .int .i64 top, .bool cy, .int .i64 sc, .int .i64 ol, .int .i64 co, .int .i64 sr, .slice ra rn rc]] m Q
  rw [e9]
  refine newA_intro fun g1 m2 hg1 e2 hb1 hle2 => newA_intro fun g3 m4 hg3 e4 hb3 hle4 => newA_intro fun g5 m6 hg5 e6 hb5 hle6 => ?_
  have n35 : g3 ≠ g5 := ne_of_none hg5 hb3
  have b1 : ∀ M, Mem.le m4 M → M g1 = some (.cells #[.slice wa wn wc, .int .i64 se, .int .i64 to, .int .i64 top, .bool cy, .int .i64 sc, .int .i64 ol, .int .i64 co, .int .i64 sr, .slice ra rn rc] 25 (0, 0)) := fun M hM => hM _ _ (hle4 _ _ hb1)
  have l26 : Mem.le m m6 := Mem.le_trans hle2 (Mem.le_trans hle4 hle6)
  refine ⟨_, _, _, cell_of (b1 m6 hle6) 0, via h29 ⟨(⟨wa, wn, wc⟩ : Sl), x.1, rfl, (Ds.rows U64).at_le l26 hw, hok1, fun (hs1 : Sl) D1 ma lea fr1 nd1 o1 => ⟨_, _, _, rfl, ?_⟩⟩⟩
  obtain ⟨va, vn, vc⟩ := hs1
  have La : Mem.le m4 ma := Mem.le_trans hle6 lea
  have g5D1 : g5 ∉ D1 := fun hb => by have := fr1 _ hb; rw [hb5] at this; cases this
  refine sto (c := #[.slice none 0 0, .int .i64 0, .int .i64 0, .int .i64 0, .bool false, .int .i64 0, .int .i64 0, .int .i64 0, .int .i64 0, .slice none 0 0]) (t := 29) (lea _ _ hb5) rfl (by simp) fun p1 f1 q1 ne1 => ?_
  have q1 : p1 g5 = some (.cells #[.slice va vn vc, .int .i64 0, .int .i64 0, .int .i64 0, .bool false, .int .i64 0, .int .i64 0, .int .i64 0, .int .i64 0, .slice none 0 0] 29 (0, 0)) := q1
  have L1 : Mem.le m4 p1 := le_other La hg5 ne1
  have o1' := (Ds.rows U64).own_ext o1 fun b hb => ne1 b (fun e => g5D1 (e ▸ hb))
  refine ⟨_, cell_of (b1 _ L1) 1, ?_⟩
  refine sto (c := #[.slice va vn vc, .int .i64 0, .int .i64 0, .int .i64 0, .bool false, .int .i64 0, .int .i64 0, .int .i64 0, .int .i64 0, .slice none 0 0]) (t := 29) q1 rfl (by simp) fun p2 f2 q2 ne2 => ?_
  have q2 : p2 g5 = some (.cells #[.slice va vn vc, .int .i64 se, .int .i64 0, .int .i64 0, .bool false, .int .i64 0, .int .i64 0, .int .i64 0, .int .i64 0, .slice none 0 0] 29 (0, 0)) := q2
  have L2 : Mem.le m4 p2 := le_other L1 hg5 ne2
  have o2' := (Ds.rows U64).own_ext o1' fun b hb => ne2 b (fun e => g5D1 (e ▸ hb))
  refine ⟨_, cell_of (b1 _ L2) 2, ?_⟩
  refine sto (c := #[.slice va vn vc, .int .i64 se, .int .i64 0, .int .i64 0, .bool false, .int .i64 0, .int .i64 0, .int .i64 0, .int .i64 0, .slice none 0 0]) (t := 29) q2 rfl (by simp) fun p3 f3 q3 ne3 => ?_
  have q3 : p3 g5 = some (.cells #[.slice va vn vc, .int .i64 se, .int .i64 to, .int .i64 0, .bool false, .int .i64 0, .int .i64 0, .int .i64 0, .int .i64 0, .slice none 0 0] 29 (0, 0)) := q3
  have L3 : Mem.le m4 p3 := le_other L2 hg5 ne3
  have o3' := (Ds.rows U64).own_ext o2' fun b hb => ne3 b (fun e => g5D1 (e ▸ hb))
  refine ⟨_, cell_of (b1 _ L3) 3, ?_⟩
  refine sto (c := #[.slice va vn vc, .int .i64 se, .int .i64 to, .int .i64 0, .bool false, .int .i64 0, .int .i64 0, .int .i64 0, .int .i64 0, .slice none 0 0]) (t := 29) q3 rfl (by simp) fun p4 f4 q4 ne4 => ?_
  have q4 : p4 g5 = some (.cells #[.slice va vn vc, .int .i64 se, .int .i64 to, .int .i64 top, .bool false, .int .i64 0, .int .i64 0, .int .i64 0, .int .i64 0, .slice none 0 0] 29 (0, 0)) := q4
  have L4 : Mem.le m4 p4 := le_other L3 hg5 ne4
  have o4' := (Ds.rows U64).own_ext o3' fun b hb => ne4 b (fun e => g5D1 (e ▸ hb))
  refine ⟨_, cell_of (b1 _ L4) 4, ?_⟩
  refine sto (c := #[.slice va vn vc, .int .i64 se, .int .i64 to, .int .i64 top, .bool false, .int .i64 0, .int .i64 0, .int .i64 0, .int .i64 0, .slice none 0 0]) (t := 29) q4 rfl (by simp) fun p5 f5 q5 ne5 => ?_
  have q5 : p5 g5 = some (.cells #[.slice va vn vc, .int .i64 se, .int .i64 to, .int .i64 top, .bool cy, .int .i64 0, .int .i64 0, .int .i64 0, .int .i64 0, .slice none 0 0] 29 (0, 0)) := q5
  have L5 : Mem.le m4 p5 := le_other L4 hg5 ne5
  have o5' := (Ds.rows U64).own_ext o4' fun b hb => ne5 b (fun e => g5D1 (e ▸ hb))
  refine ⟨_, cell_of (b1 _ L5) 5, ?_⟩
  refine sto (c := #[.slice va vn vc, .int .i64 se, .int .i64 to, .int .i64 top, .bool cy, .int .i64 0, .int .i64 0, .int .i64 0, .int .i64 0, .slice none 0 0]) (t := 29) q5 rfl (by simp) fun p6 f6 q6 ne6 => ?_
  have q6 : p6 g5 = some (.cells #[.slice va vn vc, .int .i64 se, .int .i64 to, .int .i64 top, .bool cy, .int .i64 sc, .int .i64 0, .int .i64 0, .int .i64 0, .slice none 0 0] 29 (0, 0)) := q6
  have L6 : Mem.le m4 p6 := le_other L5 hg5 ne6
  have o6' := (Ds.rows U64).own_ext o5' fun b hb => ne6 b (fun e => g5D1 (e ▸ hb))
  refine ⟨_, cell_of (b1 _ L6) 6, ?_⟩
  refine sto (c := #[.slice va vn vc, .int .i64 se, .int .i64 to, .int .i64 top, .bool cy, .int .i64 sc, .int .i64 0, .int .i64 0, .int .i64 0, .slice none 0 0]) (t := 29) q6 rfl (by simp) fun p7 f7 q7 ne7 => ?_
  have q7 : p7 g5 = some (.cells #[.slice va vn vc, .int .i64 se, .int .i64 to, .int .i64 top, .bool cy, .int .i64 sc, .int .i64 ol, .int .i64 0, .int .i64 0, .slice none 0 0] 29 (0, 0)) := q7
  have L7 : Mem.le m4 p7 := le_other L6 hg5 ne7
  have o7' := (Ds.rows U64).own_ext o6' fun b hb => ne7 b (fun e => g5D1 (e ▸ hb))
  refine ⟨_, cell_of (b1 _ L7) 7, ?_⟩
  refine sto (c := #[.slice va vn vc, .int .i64 se, .int .i64 to, .int .i64 top, .bool cy, .int .i64 sc, .int .i64 ol, .int .i64 0, .int .i64 0, .slice none 0 0]) (t := 29) q7 rfl (by simp) fun p8 f8 q8 ne8 => ?_
  have q8 : p8 g5 = some (.cells #[.slice va vn vc, .int .i64 se, .int .i64 to, .int .i64 top, .bool cy, .int .i64 sc, .int .i64 ol, .int .i64 co, .int .i64 0, .slice none 0 0] 29 (0, 0)) := q8
  have L8 : Mem.le m4 p8 := le_other L7 hg5 ne8
  have o8' := (Ds.rows U64).own_ext o7' fun b hb => ne8 b (fun e => g5D1 (e ▸ hb))
  refine ⟨_, cell_of (b1 _ L8) 8, ?_⟩
  refine sto (c := #[.slice va vn vc, .int .i64 se, .int .i64 to, .int .i64 top, .bool cy, .int .i64 sc, .int .i64 ol, .int .i64 co, .int .i64 0, .slice none 0 0]) (t := 29) q8 rfl (by simp) fun p9 f9 q9 ne9 => ?_
  have q9 : p9 g5 = some (.cells #[.slice va vn vc, .int .i64 se, .int .i64 to, .int .i64 top, .bool cy, .int .i64 sc, .int .i64 ol, .int .i64 co, .int .i64 sr, .slice none 0 0] 29 (0, 0)) := q9
  have L9 : Mem.le m4 p9 := le_other L8 hg5 ne9
  have o9' := (Ds.rows U64).own_ext o8' fun b hb => ne9 b (fun e => g5D1 (e ▸ hb))
  refine ⟨_, _, _, cell_of (b1 _ L9) 9, via h30 ⟨(⟨ra, rn, rc⟩ : Sl), x.2.2.2.2.2.2.2.2.2, rfl, (Ds.rows Vl).at_le (Mem.le_trans (Mem.le_trans hle2 hle4) L9) hr, hok2, fun (hs2 : Sl) D2 mb leb fr2 nd2 o2 => ⟨_, _, _, rfl, ?_⟩⟩⟩
  obtain ⟨ya, yn, yc⟩ := hs2
  have Lb : Mem.le m4 mb := Mem.le_trans L9 leb
  have ob := (Ds.rows U64).own_le leb o9'
  have g5D2 : g5 ∉ D2 := fun hb => by have := fr2 _ hb; rw [q9] at this; cases this
  refine sto (c := #[.slice va vn vc, .int .i64 se, .int .i64 to, .int .i64 top, .bool cy, .int .i64 sc, .int .i64 ol, .int .i64 co, .int .i64 sr, .slice none 0 0]) (t := 29) (leb _ _ q9) rfl (by simp) fun p10 f10 q10 ne10 => ?_
  have q10 : p10 g5 = some (.cells #[.slice va vn vc, .int .i64 se, .int .i64 to, .int .i64 top, .bool cy, .int .i64 sc, .int .i64 ol, .int .i64 co, .int .i64 sr, .slice ya yn yc] 29 (0, 0)) := q10
  have L10 : Mem.le m4 p10 := le_other Lb hg5 ne10
  have o10' := (Ds.rows U64).own_ext ob fun b hb => ne10 b (fun e => g5D1 (e ▸ hb))
  have r10 := (Ds.rows Vl).own_ext o2 fun b hb => ne10 b (fun e => g5D2 (e ▸ hb))
  refine ⟨_, _, _, cell_of q10 0, _, cell_of q10 1, _, cell_of q10 2, _, cell_of q10 3, _, cell_of q10 4, _, cell_of q10 5, _, cell_of q10 6, _, cell_of q10 7, _, cell_of q10 8, _, _, _, cell_of q10 9, ?_⟩
  refine sto_ar (L10 _ _ hb3) fun pz fz qz nez => ?_
  have Lz : Mem.le m2 pz := le_other (Mem.le_trans hle4 L10) hg3 nez
  have g3D1 : g3 ∉ D1 := fun hb => by have := fr1 _ hb; rw [hle6 _ _ hb3] at this; cases this
  have g3D2 : g3 ∉ D2 := fun hb => by have := fr2 _ hb; rw [L9 _ _ hb3] at this; cases this
  have oz := (Ds.rows U64).own_ext o10' fun b hb => nez b (fun e => g3D1 (e ▸ hb))
  have rz := (Ds.rows Vl).own_ext r10 fun b hb => nez b (fun e => g3D2 (e ▸ hb))
  refine ⟨_, _, _, cell_of qz 0, _, cell_of qz 1, _, cell_of qz 2, _, cell_of qz 3, _, cell_of qz 4, _, cell_of qz 5, _, cell_of qz 6, _, cell_of qz 7, _, cell_of qz 8, _, _, _, cell_of qz 9, ret_intro (Mem.le_refl _) ?_⟩
  refine h (⟨va, vn, vc⟩, se, to, top, cy, sc, ol, co, sr, ⟨ya, yn, yc⟩) (D1 ++ D2) pz (Mem.le_trans hle2 Lz) (fun b hb => ?_) ?_ ⟨D1, D2, rfl, oz, [], D2, rfl, ⟨i1, rfl⟩, [], D2, rfl, ⟨i2, rfl⟩, [], D2, rfl, ⟨i3, rfl⟩, [], D2, rfl, ⟨i4, rfl⟩, [], D2, rfl, ⟨i5, rfl⟩, [], D2, rfl, ⟨i6, rfl⟩, [], D2, rfl, ⟨i7, rfl⟩, [], D2, rfl, ⟨i8, rfl⟩, rz⟩
  · rcases List.mem_append.1 hb with hb | hb
    · exact le_none l26 (fr1 b hb)
    · exact le_none (Mem.le_trans (Mem.le_trans hle2 hle4) L9) (fr2 b hb)
  · refine List.nodup_append.2 ⟨nd1, nd2, fun b hb b' hb' e => ?_⟩
    subst e
    obtain ⟨ob', hb2⟩ := (Ds.rows U64).live o9' b hb
    have := fr2 b hb'
    rw [hb2] at this
    cases this
def s11 : Spec := eqS dAr vAr okAr
theorem f11 (t : Tab) (h35 : look t 35 = s35) (h36 : look t 36 = s36) : ∀ args m Q, s11 args m Q → FA Tryz.prog (look t) kp11 Tryz.f11 args m Q := by
  rintro args m Q ⟨(⟨⟨wa, wn, wc⟩, se, to, top, cy, sc, ol, co, sr, ⟨ra, rn, rc⟩⟩ : ArH), ⟨xw, x1, x2, x3, x4, x5, x6, x7, x8, xr⟩, (⟨⟨wa', wn', wc'⟩, y1', y2', y3', y4', y5', y6', y7', y8', ⟨ra', rn', rc'⟩⟩ : ArH), ⟨yw, y1, y2, y3, y4, y5, y6, y7, y8, yr⟩, rfl, ⟨hw, i1, i2, i3, i4, i5, i6, i7, i8, hr⟩, ⟨hw', j1, j2, j3, j4, j5, j6, j7, j8, hr'⟩, ⟨hok1, hok2⟩, h⟩
  obtain rfl : se = x1 := i1
  obtain rfl : y1' = y1 := j1
  obtain rfl : to = x2 := i2
  obtain rfl : y2' = y2 := j2
  obtain rfl : top = x3 := i3
  obtain rfl : y3' = y3 := j3
  obtain rfl : cy = x4 := i4
  obtain rfl : y4' = y4 := j4
  obtain rfl : sc = x5 := i5
  obtain rfl : y5' = y5 := j5
  obtain rfl : ol = x6 := i6
  obtain rfl : y6' = y6 := j6
  obtain rfl : co = x7 := i7
  obtain rfl : y7' = y7 := j7
  obtain rfl : sr = x8 := i8
  obtain rfl : y8' = y8 := j8
  show FA Tryz.prog (look t) kp11 Tryz.f11 [.agg #[.slice wa wn wc, .int .i64 se, .int .i64 to, .int .i64 top, .bool cy, .int .i64 sc, .int .i64 ol, .int .i64 co, .int .i64 sr, .slice ra rn rc], .agg #[.slice wa' wn' wc', .int .i64 y1', .int .i64 y2', .int .i64 y3', .bool y4', .int .i64 y5', .int .i64 y6', .int .i64 y7', .int .i64 y8', .slice ra' rn' rc']] m Q
  rw [e11]
  refine newA_intro fun g1 m2 hg1 e2 hb1 hle2 => newA_intro fun g3 m4 hg3 e4 hb3 hle4 => ?_
  have l4 := Mem.le_trans hle2 hle4
  have hb1 := hle4 _ _ hb1
  refine ⟨_, _, _, cell_of hb1 0, _, _, _, cell_of hb3 0, via h35 ⟨(⟨wa, wn, wc⟩ : Sl), xw, (⟨wa', wn', wc'⟩ : Sl), yw, rfl, (Ds.rows U64).at_le l4 hw, (Ds.rows U64).at_le l4 hw', hok1, _, rfl, ?_⟩⟩
  by_cases c0 : xw = yw
  case neg => rw [decide_eq_false c0, if_pos (by decide)]; exact ret_bool l4 h (by simp [c0])
  rw [decide_eq_true c0, if_neg (by decide)]
  refine ⟨_, cell_of hb1 1, _, cell_of hb3 1, ?_⟩
  by_cases c1 : se = y1'
  case neg => rw [if_pos (by simpa using c1)]; exact ret_bool l4 h (by simp [c1])
  rw [if_neg (by simpa using c1)]
  refine ⟨_, cell_of hb1 2, _, cell_of hb3 2, ?_⟩
  by_cases c2 : to = y2'
  case neg => rw [if_pos (by simpa using c2)]; exact ret_bool l4 h (by simp [c2])
  rw [if_neg (by simpa using c2)]
  refine ⟨_, cell_of hb1 3, _, cell_of hb3 3, ?_⟩
  by_cases c3 : top = y3'
  case neg => rw [if_pos (by simpa using c3)]; exact ret_bool l4 h (by simp [c3])
  rw [if_neg (by simpa using c3)]
  refine ⟨_, cell_of hb1 4, _, cell_of hb3 4, ?_⟩
  by_cases c4 : cy = y4'
  case neg => rw [if_pos (by cases cy <;> cases y4' <;> simp at c4 ⊢)]; exact ret_bool l4 h (by simp [c4])
  rw [if_neg (by rw [c4]; simp)]
  refine ⟨_, cell_of hb1 5, _, cell_of hb3 5, ?_⟩
  by_cases c5 : sc = y5'
  case neg => rw [if_pos (by simpa using c5)]; exact ret_bool l4 h (by simp [c5])
  rw [if_neg (by simpa using c5)]
  refine ⟨_, cell_of hb1 6, _, cell_of hb3 6, ?_⟩
  by_cases c6 : ol = y6'
  case neg => rw [if_pos (by simpa using c6)]; exact ret_bool l4 h (by simp [c6])
  rw [if_neg (by simpa using c6)]
  refine ⟨_, cell_of hb1 7, _, cell_of hb3 7, ?_⟩
  by_cases c7 : co = y7'
  case neg => rw [if_pos (by simpa using c7)]; exact ret_bool l4 h (by simp [c7])
  rw [if_neg (by simpa using c7)]
  refine ⟨_, cell_of hb1 8, _, cell_of hb3 8, ?_⟩
  by_cases c8 : sr = y8'
  case neg => rw [if_pos (by simpa using c8)]; exact ret_bool l4 h (by simp [c8])
  rw [if_neg (by simpa using c8)]
  refine ⟨_, _, _, cell_of hb1 9, _, _, _, cell_of hb3 9, via h36 ⟨(⟨ra, rn, rc⟩ : Sl), xr, (⟨ra', rn', rc'⟩ : Sl), yr, rfl, (Ds.rows Vl).at_le l4 hr, (Ds.rows Vl).at_le l4 hr', hok2, _, rfl, ?_⟩⟩
  by_cases c9 : xr = yr
  case neg => rw [decide_eq_false c9, if_pos (by decide)]; exact ret_bool l4 h (by simp [c9])
  rw [decide_eq_true c9, if_neg (by decide)]
  exact ret_bool l4 h (by simp [c0, c1, c2, c3, c4, c5, c6, c7, c8, c9])
def s12 : Spec := mkS dAr vAr mkAr cntAr okAr (2 ^ 40)
theorem f12 (t : Tab) (h37 : look t 37 = s37) (h38 : look t 38 = s38) : ∀ args m Q, s12 args m Q → FA Tryz.prog (look t) kp12 Tryz.f12 args m Q := by
  rintro args m Q ⟨(⟨⟨wa, wn, wc⟩, se, to, top, cy, sc, ol, co, sr, ⟨ra, rn, rc⟩⟩ : ArH), x, D, k, rfl, ⟨D1, D2, hD, ow, E1, F1, f1, ⟨i1, z1⟩, E2, F2, f2, ⟨i2, z2⟩, E3, F3, f3, ⟨i3, z3⟩, E4, F4, f4, ⟨i4, z4⟩, E5, F5, f5, ⟨i5, z5⟩, E6, F6, f6, ⟨i6, z6⟩, E7, F7, f7, ⟨i7, z7⟩, E8, F8, f8, ⟨i8, z8⟩, owr⟩, hnd, ⟨hok1, hok2⟩, hk0, hk1, h⟩
  subst z1 z2 z3 z4 z5 z6 z7 z8
  rw [List.nil_append] at f1 f2 f3 f4 f5 f6 f7 f8
  subst f8 f7 f6 f5 f4 f3 f2 f1 hD
  show FA Tryz.prog (look t) kp12 Tryz.f12 [.agg #[.slice wa wn wc, .int .i64 se, .int .i64 to, .int .i64 top, .bool cy, .int .i64 sc, .int .i64 ol, .int .i64 co, .int .i64 sr, .slice ra rn rc], .int .i64 k] m Q
  rw [e12]
  refine newA_intro fun g1 m2 hg1 e2 hb1 hle2 => ?_
  have hn := List.nodup_append.1 hnd
  have h1 : x.1.length ≤ 2 ^ 20 := hok1
  have h2 : x.2.2.2.2.2.2.2.2.2.length ≤ 2 ^ 20 := hok2
  have g1D1 : g1 ∉ D1 := fun hb => by obtain ⟨o, ho⟩ := (Ds.rows U64).live ow g1 hb; rw [hg1] at ho; cases ho
  have g1D2 : g1 ∉ D2 := fun hb => by obtain ⟨o, ho⟩ := (Ds.rows Vl).live owr g1 hb; rw [hg1] at ho; cases ho
  have dis : ∀ b ∈ D2, b ∉ D1 := fun b hb hb' => hn.2.2 b hb' b hb rfl
  refine ⟨_, _, _, cell_of hb1 0, via h37 ⟨(⟨wa, wn, wc⟩ : Sl), x.1, D1, k, rfl, (Ds.rows U64).own_le hle2 ow, hn.1, hok1, hk0, by omega, fun m8 ho8 hw8 => ⟨_, rfl, ?_⟩⟩⟩
  have b8 : m8 g1 = _ := (ho8 g1 g1D1).trans hb1
  refine ⟨_, _, _, cell_of b8 9, via h38 ⟨(⟨ra, rn, rc⟩ : Sl), x.2.2.2.2.2.2.2.2.2, D2, _, rfl, (Ds.rows Vl).own_ext ((Ds.rows Vl).own_le hle2 owr) (fun b hb => ho8 b (dis b hb)), hn.2.1, hok2, by show 0 < k + ((x.1.length : Nat) : Int); omega, by show k + ((x.1.length : Nat) : Int) ≤ 2 ^ 50; omega, fun m15 ho15 hw15 => ⟨_, rfl, ?_⟩⟩⟩
  have hM : ∀ b, b ≠ g1 → (fun b => if b = g1 then none else m15 b : Mem) b = m15 b := fun b hb => if_neg hb
  refine ret_intro (m1 := fun b => if b = g1 then none else m15 b) ?_ ?_
  · intro b o e
    by_cases hb : b = g1
    · simp [hb] at e
    · rwa [hM b hb] at e
  · have ev : k + ((x.1.length : Nat) : Int) + ((2 * x.2.2.2.2.2.2.2.2.2.length : Nat) : Int) = k + ((cntAr x : Nat) : Int) := by unfold cntAr; push_cast; omega
    rw [ev]
    refine h _ (fun b hb => ?_) ⟨D1, D2, rfl, ?_, [], D2, rfl, ⟨i1, rfl⟩, [], D2, rfl, ⟨i2, rfl⟩, [], D2, rfl, ⟨i3, rfl⟩, [], D2, rfl, ⟨i4, rfl⟩, [], D2, rfl, ⟨i5, rfl⟩, [], D2, rfl, ⟨i6, rfl⟩, [], D2, rfl, ⟨i7, rfl⟩, [], D2, rfl, ⟨i8, rfl⟩, ?_⟩
    · rw [List.mem_append, not_or] at hb
      by_cases hb1' : b = g1
      · simp only [hb1', if_true]
        exact hg1.symm
      · rw [if_neg hb1', ho15 b hb.2, ho8 b hb.1, e2, upd_ne hb1']
    · refine (Ds.rows U64).own_ext hw8 fun b hb => ?_
      exact (hM b (by rintro rfl; exact g1D1 hb)).trans (ho15 b (fun hb' => dis b hb' hb))
    · exact (Ds.rows Vl).own_ext hw15 fun b hb => hM b (by rintro rfl; exact g1D2 hb)
def s13 : Spec := hdS dAr vAr mkAr cntAr okAr (2 ^ 40)
theorem f13 (t : Tab) (h39 : look t 39 = s39) (h40 : look t 40 = s40) : ∀ args m Q, s13 args m Q → FA Tryz.prog (look t) kp13 Tryz.f13 args m Q := by
  rintro args m Q ⟨(⟨⟨wa, wn, wc⟩, se, to, top, cy, sc, ol, co, sr, ⟨ra, rn, rc⟩⟩ : ArH), x, k, rfl, ⟨hw, _, _, _, _, _, _, _, _, hr⟩, ⟨hok1, hok2⟩, hk0, hk1, h⟩
  show FA Tryz.prog (look t) kp13 Tryz.f13 [.agg #[.slice wa wn wc, .int .i64 se, .int .i64 to, .int .i64 top, .bool cy, .int .i64 sc, .int .i64 ol, .int .i64 co, .int .i64 sr, .slice ra rn rc], .int .i64 k] m Q
  rw [e13]
  have h1 : x.1.length ≤ 2 ^ 20 := hok1
  have h2 : x.2.2.2.2.2.2.2.2.2.length ≤ 2 ^ 20 := hok2
  refine newA_intro fun g1 m2 hg1 e2 hb1 hle2 => ?_
  refine ⟨_, _, _, cell_of hb1 0, via h39 ⟨(⟨wa, wn, wc⟩ : Sl), x.1, k, rfl, (Ds.rows U64).at_le hle2 hw, hok1, hk0, by omega, _, rfl, ?_⟩⟩
  rw [if_neg (by simp; omega)]
  refine ⟨_, _, _, cell_of hb1 9, via h40 ⟨(⟨ra, rn, rc⟩ : Sl), x.2.2.2.2.2.2.2.2.2, k + (x.1.length : Int), rfl, (Ds.rows Vl).at_le hle2 hr, hok2, by omega, by omega, _, rfl, ?_⟩⟩
  rw [if_neg (by simp; omega)]
  have ev : k + ((x.1.length : Nat) : Int) + ((2 * x.2.2.2.2.2.2.2.2.2.length : Nat) : Int) = k + ((cntAr x : Nat) : Int) := by unfold cntAr; push_cast; omega
  show ret Q (.int .i64 (k + ((x.1.length : Nat) : Int) + ((2 * x.2.2.2.2.2.2.2.2.2.length : Nat) : Int))) m2
  rw [ev]
  exact ret_intro hle2 h
end Go.Proofs.YtpdcjocjkbgddaaGreat.Abs
