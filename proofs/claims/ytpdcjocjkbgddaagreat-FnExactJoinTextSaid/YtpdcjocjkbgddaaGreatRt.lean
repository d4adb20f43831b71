/- Arenas: serials: the reference's function. -/
import Derived.Test.YtpdcjocjkbgddaaGreatRs
namespace Go.Proofs.YtpdcjocjkbgddaaGreat.Abs
open Go.RowKit
set_option linter.unusedVariables false
set_option linter.unusedSimpArgs false
set_option maxRecDepth 20000
theorem li {m : Mem} {a : Option Addr} {l : List Int} {i : Int} {n : Nat} {K : Addr → Prop} (h : Rd m a l) (hn : l.length = n) (h0 : 0 ≤ i) (hi : i < n)
    (hK : ∀ ad, a = some ad → (∀ q : Mem, Mem.le m q → q.cell? (ad.add (i.toNat * 1)) = some (.int .i64 (gi l i))) → K ad) : optA a fun ad => 0 ≤ i ∧ i < (n : Int) ∧ K ad := ri h hn h0 hi hK
theorem gi_mem {l : List Int} {i : Nat} (h : i < l.length) : gi l (i : Int) = l[i] := by
  unfold gi
  rw [List.getD_eq_getElem?_getD, Int.toNat_natCast, List.getElem?_eq_getElem h]; rfl
theorem loopSh (t : Tab) {Q : Value → Mem → Prop} {mkS hs : Sl} {D : List Nat} {m : Mem} {g n3 : Nat} {p z : Int} {had : List Int} (hl : had.length ≤ 2 ^ 20)
    (no : z ∈ had → ∀ M, Mem.le m M → ret Q (.bool false) M)
    (yes : z ∉ had → ∀ (s' : Sl) (M : Mem) (D' : List Nat), Mem.le m M → OwnL M s' (had ++ [z]) D' → (∀ b ∈ D', m b = none) → s'.n = hs.n + 1 → L54_3 (look t) n3 Q mkS.a mkS.n mkS.c g s'.a (hs.n + 1) s'.c (IntKind.i64.wrap (p + 1)) M) :
    ∀ (d i : Nat), i + d = had.length → (∀ j : Nat, j < i → gi had (j : Int) ≠ z) → ∀ M : Mem, Mem.le m M → OwnL M hs had D → (∀ b ∈ D, m b = none) → L54_9 (look t) n3 (d + 1) Q mkS.a mkS.n mkS.c g hs.a hs.n hs.c p z (i : Int) M := by
  intro d
  induction d with
  | zero =>
    intro i hi hz M hle hO hD
    rw [l54_9]
    refine ⟨M, Mem.le_refl _, ?_⟩
    have hn := hO.1
    rw [if_neg (by simp; omega)]
    refine newA_intro fun g2 m2 hg e hb hle2 => ?_
    refine app_sl (α := Int) (l := had) (l2 := [z]) (D := D) rfl rfl (by decide) (by decide) (by decide) (hO.ext fun b hb' => ?_) rfl (Rd.of_block (spare := []) hb (by rfl)) (by show had.length + 1 ≤ 2 ^ 40; omega) fun s' D' M' hsn hO' hoff hfr hnd' => ?_
    · obtain ⟨o, ho⟩ := hO.live b hb'
      rw [ho, hle2 _ _ ho]
    · have hD' : ∀ b ∈ D', m b = none := by
        rcases hfr with rfl | hfr
        · exact hD
        · exact fun b hb' => le_none (Mem.le_trans hle hle2) (hfr b hb')
      refine yes (fun h => ?_) s' M' D' (le_off (Mem.le_trans hle hle2) hD' hoff) hO' hD' hsn
      obtain ⟨j, hj, e⟩ := List.mem_iff_getElem.1 h
      exact hz j (by omega) (by rw [gi_mem hj]; exact e)
  | succ d ih =>
    intro i hi hz M hle hO hD
    have hn := hO.1
    rw [l54_9]
    refine ⟨M, Mem.le_refl _, ?_⟩
    rw [if_pos (by simp; omega), wsucc (n := 2 ^ 20) (by omega) (by decide)]
    refine li hO.rd hn.symm (by omega) (by omega) fun ad had_ hd => ⟨_, hd _ (Mem.le_refl _), ?_⟩
    by_cases c : gi had (i : Int) = z
    · rw [if_pos (by simpa using c)]
      refine no ?_ M hle
      rw [gi_mem (by omega)] at c
      rw [← c]
      exact List.getElem_mem _
    · rw [if_neg (by simpa using c)]
      refine ih (i + 1) (by omega) (fun j hj => ?_) M hle hO hD
      by_cases e : j = i
      · rw [e]; exact c
      · exact hz j (by omega)
/-- Serials that stand below a place. -/
def HadN (a : Ar) (mk : List Int) (p : Int) (had : List Int) : Prop := ∀ x, x ∈ had ↔ x ≠ 0 ∧ ∃ q, 0 ≤ q ∧ q < p ∧ hdM mk q ∧ serW a.ws q = x
theorem HadN.skip {a : Ar} {mk : List Int} {p : Int} {had : List Int} (h : HadN a mk p had) (hs : hdM mk p → serW a.ws p = 0) : HadN a mk (p + 1) had := by
  intro x
  rw [h x]
  constructor
  · rintro ⟨h1, q, q0, q1, q2, q3⟩
    exact ⟨h1, q, q0, by omega, q2, q3⟩
  · rintro ⟨h1, q, q0, q1, q2, q3⟩
    refine ⟨h1, q, q0, ?_, q2, q3⟩
    by_cases e : q = p
    · rw [e] at q2 q3
      exact absurd (q3.symm.trans (hs q2)) h1
    · omega
theorem HadN.put {a : Ar} {mk : List Int} {p : Int} {had : List Int} (h : HadN a mk p had) (p0 : 0 ≤ p) (hp : hdM mk p) (hs : serW a.ws p ≠ 0) : HadN a mk (p + 1) (had ++ [serW a.ws p]) := by
  intro x
  rw [List.mem_append, List.mem_singleton, h x]
  constructor
  · rintro (⟨h1, q, q0, q1, q2, q3⟩ | rfl)
    · exact ⟨h1, q, q0, by omega, q2, q3⟩
    · exact ⟨hs, p, p0, by omega, hp, rfl⟩
  · rintro ⟨h1, q, q0, q1, q2, q3⟩
    by_cases e : q = p
    · right; rw [← q3, e]
    · exact .inl ⟨h1, q, q0, by omega, q2, q3⟩
theorem loopSg (t : Tab) (h56 : look t 56 = s56) {Q : Value → Mem → Prop} {s r mkS : Sl} {a : Ar} {mk : List Int} {m : Mem} {g : Nat} (hw : a.wf) (hP : Ptr m g s r a) (hA : ArAt m s r a) (hmn : mkS.n = mk.length) (hM : Rd m mkS.a mk) (hk : mk.length = a.ws.length)
    (no : ¬ serR a mk → ∀ M, Mem.le m M → ret Q (.bool false) M) (yes : serR a mk → ∀ M, Mem.le m M → ret Q (.bool true) M) :
    ∀ (d p : Nat), p + d = mk.length → ∀ (hs : Sl) (had : List Int) (D : List Nat) (M : Mem), Mem.le m M → OwnL M hs had D → (∀ b ∈ D, m b = none) → had.length ≤ p → HadN a mk p had → (∀ q1 q2 : Int, 0 ≤ q1 → q1 < q2 → q2 < p → hdM mk q1 → hdM mk q2 → serW a.ws q1 ≠ 0 → serW a.ws q1 ≠ serW a.ws q2) →
      L54_3 (look t) (d + 1) Q mkS.a mkS.n mkS.c g hs.a hs.n hs.c (p : Int) M := by
  intro d
  have hN := hw.n
  induction d with
  | zero =>
    intro p hp hs had D M hle hO hD hl hH hS
    rw [l54_3]
    refine ⟨M, Mem.le_refl _, ?_⟩
    rw [if_neg (by simp; omega)]
    exact yes (fun p q p0 p1 q1 h1 h2 h3 => hS p q p0 p1 (by omega) h1 h2 h3) M hle
  | succ d ih =>
    intro p hp hs had D M hle hO hD hl hH hS
    have hb1 := hle _ _ hP
    have hA := hA.le hle
    have hM := hM.le hle
    have p0 : (0 : Int) ≤ p := by omega
    have p1 : (p : Int) < a.ws.length := by omega
    have nx : (hdM mk p → serW a.ws p = 0) → L54_3 (look t) (d + 1) Q mkS.a mkS.n mkS.c g hs.a hs.n hs.c (IntKind.i64.wrap ((p : Int) + 1)) M := by
      intro h
      rw [wsucc (n := 2 ^ 20) (by omega) (by decide)]
      refine ih (p + 1) (by omega) hs had D M hle hO hD (by omega) (by have := hH.skip h; rwa [show ((p + 1 : Nat) : Int) = (p : Int) + 1 by omega]) fun q1 q2 a1 a2 a3 a4 a5 a6 => ?_
      by_cases e : q2 = p
      · rw [e] at a5 ⊢
        intro e2
        exact a6 (e2.trans (h a5))
      · exact hS q1 q2 a1 a2 (by omega) a4 a5 a6
    have fin : hdM mk p → if ((lookW a.ws p).2.2 == 0) = true then L54_3 (look t) (d + 1) Q mkS.a mkS.n mkS.c g hs.a hs.n hs.c (IntKind.i64.wrap ((p : Int) + 1)) M
        else ∃ k, L54_9 (look t) (d + 1) k Q mkS.a mkS.n mkS.c g hs.a hs.n hs.c (p : Int) (lookW a.ws p).2.2 0 M := by
      intro hp2
      by_cases c : serW a.ws p = 0
      · rw [if_pos (by unfold serW at c; simpa using c)]
        exact nx fun _ => c
      · rw [if_neg (by unfold serW at c; simpa using c)]
        refine ⟨had.length + 1, loopSh t (m := m) (had := had) (D := D) (by omega) (fun h => ?_) (fun h s' M' D' hle' hO' hD' hsn => ?_) had.length 0 (by omega) (fun j hj => by omega) M hle hO hD⟩
        · refine no fun hR => ?_
          obtain ⟨x1, q, q0, q1, q2, q3⟩ := (hH _).1 h
          exact hR q p q0 q1 (by omega) q2 hp2 (by rw [q3]; exact x1) q3
        · rw [wsucc (n := 2 ^ 20) (by omega) (by decide), ← hsn]
          refine ih (p + 1) (by omega) s' _ D' M' hle' hO' hD' (by rw [List.length_append]; show had.length + 1 ≤ p + 1; omega) (by have := hH.put p0 hp2 c; rwa [show ((p + 1 : Nat) : Int) = (p : Int) + 1 by omega]) fun q1 q2 a1 a2 a3 a4 a5 a6 => ?_
          by_cases e : q2 = p
          · rw [e]
            intro e2
            exact h ((hH _).2 ⟨c, q1, a1, by omega, a4, e2⟩)
          · exact hS q1 q2 a1 a2 (by omega) a4 a5 a6
    rw [l54_3]
    refine ⟨M, Mem.le_refl _, ?_⟩
    rw [if_pos (by simp; omega)]
    refine ri hM hmn.symm p0 (by omega) fun ad had_ hd => ⟨_, hd _ (Mem.le_refl _), ?_⟩
    by_cases c1 : gi mk p = 1
    · rw [if_neg (by simpa using c1)]
      exact ⟨_, _, _, cell_of hb1 0, _, cell_of hb1 1, _, cell_of hb1 2, _, cell_of hb1 3, _, cell_of hb1 4, _, cell_of hb1 5, _, cell_of hb1 6, _, cell_of hb1 7, _, cell_of hb1 8, _, _, _, cell_of hb1 9, via h56 ⟨s, r, a, _, rfl, ⟨hA, hw, p0, p1⟩, _, _, _, rfl, fin (.inl c1)⟩⟩
    · rw [if_pos (by simpa using c1)]
      refine ri hM hmn.symm p0 (by omega) fun ad had_ hd => ⟨_, hd _ (Mem.le_refl _), ?_⟩
      by_cases c2 : gi mk p = 2
      · rw [if_neg (by simpa using c2)]
        exact ⟨_, _, _, cell_of hb1 0, _, cell_of hb1 1, _, cell_of hb1 2, _, cell_of hb1 3, _, cell_of hb1 4, _, cell_of hb1 5, _, cell_of hb1 6, _, cell_of hb1 7, _, cell_of hb1 8, _, _, _, cell_of hb1 9, via h56 ⟨s, r, a, _, rfl, ⟨hA, hw, p0, p1⟩, _, _, _, rfl, fin (.inr c2)⟩⟩
      · rw [if_pos (by simpa using c2)]
        exact nx fun h => by unfold hdM at h; omega
def s54 : Spec := fun args m Q => ∃ (s r mkS : Sl) (a : Ar) (mk : List Int), args = [vA s r a, vs mkS] ∧ ArAt m s r a ∧ a.wf ∧ mkS.n = mk.length ∧ Rd m mkS.a mk ∧ mk.length = a.ws.length ∧ Q (.bool (pB (serR a mk))) m
theorem f54 (t : Tab) (h56 : look t 56 = s56) : ∀ args m Q, s54 args m Q → FA Tryz.prog (look t) kp54 Tryz.f54 args m Q := by
  rintro args m Q ⟨s, r, mkS, a, mk, rfl, hA, hw, hmn, hM, hk, hQ⟩
  show FA Tryz.prog (look t) kp54 Tryz.f54 [.agg #[.slice s.a s.n s.c, .int .i64 a.semi, .int .i64 a.to, .int .i64 a.top, .bool a.cyc, .int .i64 a.scan, .int .i64 a.old, .int .i64 a.cop, .int .i64 a.ser, .slice r.a r.n r.c], .slice mkS.a mkS.n mkS.c] m Q
  rw [e54]
  refine newA_intro fun g m2 hg1 e2 hb1 hle2 => newA_intro fun g3 m4 hg3 e4 hb3 hle4 => ⟨mk.length + 1, ?_⟩
  have l4 := Mem.le_trans hle2 hle4
  refine loopSg t h56 (m := m2) hw hb1 (hA.le hle2) hmn (hM.le hle2) hk (fun h M hM => ret_intro (Mem.le_trans hle2 hM) (pB_no h ▸ hQ)) (fun h M hM => ret_intro (Mem.le_trans hle2 hM) (pB_yes h ▸ hQ)) mk.length 0 (by omega) ⟨some ⟨g3, 0, none⟩, 0, 0⟩ [] [g3] m4 hle4 ⟨rfl, .inr ⟨g3, 3, [], rfl, rfl, hb3, rfl⟩⟩ (fun b hb => by rw [List.mem_singleton] at hb; rw [hb]; exact hg3) (by decide) (fun x => ?_) (fun q1 q2 a1 a2 a3 => by omega)
  constructor
  · intro h; cases h
  · rintro ⟨_, q, q0, q1, _⟩; omega
end Go.Proofs.YtpdcjocjkbgddaaGreat.Abs
