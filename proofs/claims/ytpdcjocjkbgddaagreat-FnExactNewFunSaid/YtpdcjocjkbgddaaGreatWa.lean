/- Functions that are made. -/
import Derived.Test.YtpdcjocjkbgddaaGreatUl
import Derived.Test.YtpdcjocjkbgddaaGreatEqF
namespace Go.Proofs.YtpdcjocjkbgddaaGreat.Abs
open Go.RowKit
set_option linter.unusedVariables false
set_option linter.unusedSimpArgs false
set_option maxRecDepth 20000
theorem liH {m : Mem} {a : Option Addr} {l : List Int} {i : Int} {n : Nat} {K : Addr → Prop} (h : Rd m a l) (hn : l.length = n) (h0 : 0 ≤ i) (hi : i < n)
    (hK : ∀ ad, a = some ad → (∀ q : Mem, Rd q a l → q.cell? (ad.add (i.toNat * 1)) = some (.int .i64 (l.getD i.toNat 0))) → K ad) : optA a fun ad => 0 ≤ i ∧ i < (n : Int) ∧ K ad := by
  refine at1 (0 : Int) (fun y : Int => .int .i64 y) (fun _ => rfl) h hn h0 hi fun ad had _ => hK ad had fun q hq => ?_
  have := at1 (K := fun ad => q.cell? (ad.add (i.toNat * 1)) = some (.int .i64 (l.getD i.toNat 0))) (0 : Int) (fun y : Int => .int .i64 y) (fun _ => rfl) hq hn h0 hi fun ad _ c => c q (Mem.le_refl q)
  rw [had] at this
  exact this.2.2
/-- The cells of a function are put. -/
def fnW (cs : List Int) (p : Int) : Nat → Ar → Ar
  | 0, b => b
  | i + 1, b => putV (fnW cs p i b) (p + 2 + 2 * (i : Int)) (b.rs.getD (cs.getD i 0).toNat (0, 0))
theorem fnW_rs (cs : List Int) (p : Int) (b : Ar) : ∀ i : Nat, (fnW cs p i b).rs = b.rs
  | 0 => rfl
  | i + 1 => fnW_rs cs p b i
theorem fnW_len (cs : List Int) (p : Int) (b : Ar) : ∀ i : Nat, (fnW cs p i b).ws.length = b.ws.length
  | 0 => rfl
  | i + 1 => by
    show (setW (setW _ _ _) _ _).length = _
    rw [setW_len, setW_len]
    exact fnW_len cs p b i
/-- A function is made, in a right arena. -/
def nfR (a : Ar) (pr : Int) (cs : List Int) (i : Int) : Ar × Int :=
  if (askA 4 (1 + 2 * (cs.length : Int)) a).2.2 = 0 then
    ({ fnW cs (askA 4 (1 + 2 * (cs.length : Int)) a).2.1 cs.length { (askA 4 (1 + 2 * (cs.length : Int)) a).1 with ws := setW (askA 4 (1 + 2 * (cs.length : Int)) a).1.ws ((askA 4 (1 + 2 * (cs.length : Int)) a).2.1 + 1) (uW pr) } with rs := (askA 4 (1 + 2 * (cs.length : Int)) a).1.rs.set i.toNat (5, (askA 4 (1 + 2 * (cs.length : Int)) a).2.1) }, (askA 4 (1 + 2 * (cs.length : Int)) a).2.2)
  else ((askA 4 (1 + 2 * (cs.length : Int)) a).1, (askA 4 (1 + 2 * (cs.length : Int)) a).2.2)
def cellOk (a : Ar) (c : Int) : Prop := (0 ≤ c ∧ c < a.rs.length) ∧ (a.rs.getD c.toNat (0, 0)).1 = 9
def nfP (a : Ar) (pr : Int) (cs : List Int) (i : Int) : Prop := okP a ∧ (0 ≤ i ∧ i < a.rs.length) ∧ (0 ≤ pr ∧ pr ≤ 255) ∧ cs.length ≤ 12 ∧ a.ser < 1000000000 ∧ ∀ c ∈ cs, cellOk a c
open Classical in
noncomputable def nfA (a : Ar) (pr : Int) (cs : List Int) (i : Int) : Ar × Int := if nfP a pr cs i then nfR a pr cs i else (a, 1)
theorem nf_size {n : Nat} (h : n ≤ 12) : sizeB 4 (1 + 2 * (n : Int)) = true := by
  unfold sizeB
  rw [if_neg (by decide), if_neg (by decide), if_neg (by decide), if_pos rfl, decide_eq_true_eq]
  omega
/-- The cells that a row tells. -/
theorem cs_get {cs : List Int} {i : Nat} (h : i < cs.length) : cs.getD ((i : Int)).toNat 0 = cs.getD i 0 ∧ cs.getD i 0 ∈ cs := by
  rw [Int.toNat_natCast]
  refine ⟨rfl, ?_⟩
  rw [List.getD_eq_getElem?_getD, List.getElem?_eq_getElem h]
  exact List.getElem_mem h
def s48 : Spec := fun args m Q => ∃ (g : Nat) (s r l : Sl) (a : Ar) (D : List Nat) (pr : Int) (cs : List Int) (i : Int) (m0 : Mem), args = [.pointer (some ⟨g, 0, none⟩), .int .i64 pr, vs l, .int .i64 i, .int .i64 l.n] ∧ Im m g s r a D ∧ OkC a ∧ cs.length ≤ 12 ∧ (∀ c ∈ cs, 0 ≤ c ∧ c < a.rs.length) ∧ (0 ≤ i ∧ i < a.rs.length) ∧
  l.n = cs.length ∧ Rd m0 l.a cs ∧ Mem.le m0 m ∧ (∀ b ∈ g :: D, m0 b = none) ∧ ∀ m', (∀ b, b ∉ g :: D → m' b = m b) → Im m' g s r (nfR a pr cs i).1 D → Q (.int .i64 (nfR a pr cs i).2) m'
theorem f48 (t : Tab) (h69 : look t 69 = s69) (h80 : look t 80 = s80) : ∀ args m Q, s48 args m Q → FA Tryz.prog (look t) kp48 Tryz.f48 args m Q := by
  rintro args m Q ⟨g, s, r, ⟨la, ln, lc⟩, a, D, pr, cs, i, m0, rfl, im, hG, hn, hcs, ⟨i0, i1⟩, hln, hR, hle, hf, hQ⟩
  have hln : ln = cs.length := hln
  have hR : Rd m0 la cs := hR
  show FA Tryz.prog (look t) kp48 Tryz.f48 [.pointer (some ⟨g, 0, none⟩), .int .i64 pr, .slice la ln lc, .int .i64 i, .int .i64 (ln : Int)] m Q
  subst hln
  rw [e48]
  have hsz := nf_size hn
  obtain ⟨k1, k2, k3, k4⟩ := ask_ok hG hsz
  rw [w64 (x := 2 * (cs.length : Int)) (by omega) (by omega), w64 (x := 1 + 2 * (cs.length : Int)) (by omega) (by omega)]
  refine via h69 ⟨g, s, r, a, D, 4, _, rfl, im, hG, hsz, fun m1 o1 im1 => ⟨_, _, rfl, ?_⟩⟩
  have leO : ∀ M, Off (g :: D) m M → Mem.le m0 M := fun M hO b o ho => hO b o (fun hb => by rw [hf b hb] at ho; cases ho) (hle _ _ ho)
  unfold nfR at hQ
  generalize askA 4 (1 + 2 * (cs.length : Int)) a = q at *
  obtain ⟨b, p, c⟩ := q
  simp only at k1 k2 k4 hQ im1 ⊢
  by_cases hc : c = 0
  · rw [if_pos (by rw [hc]; rfl)]
    rw [if_pos hc] at hQ
    obtain ⟨p0, p1⟩ := k4 hc
    refine ⟨_, _, _, cell_of im1.p 0, ?_⟩
    rw [w64 (x := p + 1) (by omega) (by omega)]
    refine im1.put_w (by omega) (by omega) fun m2 o2 im2 => ⟨cs.length + 1, ?_⟩
    have hbl : ({ b with ws := setW b.ws (p + 1) (uW pr) } : Ar).ws.length = a.ws.length := by show (setW b.ws _ _).length = _; rw [setW_len]; exact k1
    have im2 : Im m2 g s r { b with ws := setW b.ws (p + 1) (uW pr) } D := im2
    have hbr : ({ b with ws := setW b.ws (p + 1) (uW pr) } : Ar).rs = b.rs := rfl
    generalize ({ b with ws := setW b.ws (p + 1) (uW pr) } : Ar) = b2 at im2 hQ hbl hbr
    have O2 : Off (g :: D) m m2 := (Off.of_eq o1).trans (Off.of_eq fun q hq => o2 q fun h => hq (by simp [h]))
    suffices key : ∀ (d j : Nat), j + d = cs.length → ∀ M, Off (g :: D) m M → Im M g s r (fnW cs p j b2) D → L48_5 (look t) (d + 1) Q g i p c la cs.length lc (cs.length : Int) (j : Int) M from key cs.length 0 (by omega) m2 O2 im2
    intro d
    induction d with
    | zero =>
      intro j hj M hO imj
      rw [l48_5]
      refine ⟨M, Mem.le_refl _, ?_⟩
      rw [if_neg (by simp; omega)]
      have ej : j = cs.length := by omega
      subst ej
      refine ⟨_, _, _, cell_of imj.p 9, imj.put_r (v := (5, p)) i0 (by rw [fnW_rs, hbr]; omega) fun m3 o3 im3 => ?_⟩
      rw [fnW_rs, hbr] at im3
      exact ret_off (hO.trans (Off.of_eq fun q hq => o3 q fun h => hq (by simp [h]))) (hQ _ (fun b hb => mix_off hb) im3.mix)
    | succ d ih =>
      intro j hj M hO imj
      have hlt : j < cs.length := by omega
      obtain ⟨ec, hm⟩ := cs_get hlt
      have hb := hcs _ hm
      have hAt := imj.w.at
      have hk := hAt.k
      have hl := fnW_len cs p b2 j
      rw [l48_5]
      refine ⟨M, Mem.le_refl _, ?_⟩
      rw [if_pos (by simp; omega)]
      refine liH (hR.le (leO M hO)) rfl (by omega) (by omega) fun ad had hd => ⟨_, hd _ (hR.le (leO M hO)), _, _, _, cell_of imj.p 9, ?_⟩
      rw [ec]
      refine rget hAt.r hk hb.1 (by rw [fnW_rs, hbr] at hk; omega) fun ad had c1 c2 => ⟨_, c1, _, c2, ?_⟩
      rw [w64 (x := p + 2) (by omega) (by omega), w64 (x := 2 * (j : Int)) (by omega) (by omega), w64 (x := p + 2 + 2 * (j : Int)) (by omega) (by omega), wsucc (n := j + 1) (by omega) (by omega)]
      refine via h80 ⟨g, s, r, _, D, _, ((fnW cs p j b2).rs.getD (cs.getD j 0).toNat (0, 0)), rfl, imj, by omega, by omega, by omega, fun m3 o3 im3 => ⟨rfl, ?_⟩⟩
      refine ih (j + 1) (by omega) m3 (hO.trans (Off.of_eq o3)) ?_
      rw [fnW_rs] at im3
      exact im3
  · rw [if_neg (by simpa using hc)]
    rw [if_neg hc] at hQ
    exact ret_off (Off.of_eq o1) (hQ _ (fun b hb => mix_off hb) im1.mix)
def s16 : Spec := fun args m Q => ∃ (s r l : Sl) (a : Ar) (pr : Int) (cs : List Int) (i : Int), args = [vA s r a, .int .i64 pr, vs l, .int .i64 i] ∧ ArAt m s r a ∧ a.wf ∧ l.n = cs.length ∧ Rd m l.a cs ∧ cs.length ≤ 2 ^ 20 ∧ ncK m (nfA a pr cs i) Q
theorem nf_loopS (t : Tab) (h46 : look t 46 = s46) {Q : Value → Mem → Prop} {g g3 lc : Nat} {la : Option Addr} {s r : Sl} {D : List Nat} {m : Mem} {b2 : Ar} {p into : Int} {cs : List Int} (z1 : m g = none) (z3 : m g3 = none) (d3 : g3 ∉ D) (n31 : g3 ≠ g) (hD : ∀ b ∈ D, m b = none) (hR : Rd m la cs) (hcs : ∀ c ∈ cs, 0 ≤ c ∧ c < b2.rs.length) (hn : cs.length ≤ 12) (p0 : 0 ≤ p) (p1 : p + 2 + 2 * (cs.length : Int) ≤ b2.ws.length) (p2 : b2.ws.length ≤ 8000) (i0 : 0 ≤ into) (i1 : into < b2.rs.length)
    (hQ : ncK m ({ fnW cs p cs.length b2 with rs := b2.rs.set into.toNat (5, p) }, 0) Q) :
    ∀ (d j : Nat), j + d = cs.length → ∀ M, Off D m M → M g3 = some (.cells #[.slice none 0 0, .int .i64 0, .int .i64 0, .int .i64 0, .bool false, .int .i64 0, .int .i64 0, .int .i64 0, .int .i64 0, .slice none 0 0] 29 (0, 0)) → Im M g s r (fnW cs p j b2) D → L16_14 (look t) (d + 1) Q la cs.length lc into g3 g p (j : Int) M := by
  have leO : ∀ M, Off D m M → Mem.le m M := fun M hO b o ho => hO b o (fun hb => by rw [hD b hb] at ho; cases ho) ho
  intro d
  induction d with
  | zero =>
    intro j hj M hO h3 im
    rw [l16_14]
    refine ⟨M, Mem.le_refl _, ?_⟩
    rw [if_neg (by simp; omega)]
    have ej : j = cs.length := by omega
    subst ej
    refine ⟨_, _, _, cell_of im.p 9, im.put_r (v := (5, p)) i0 (by rw [fnW_rs]; exact i1) fun m1 o1 im1 => ?_⟩
    rw [fnW_rs] at im1
    exact (ret_nc im1 ((o1 g3 d3).trans h3) z3 d3 (hO.trans (Off.of_eq o1)) hD hQ : stT Q g g3 0 m1)
  | succ d ih =>
    intro j hj M hO h3 im
    have hlt : j < cs.length := by omega
    obtain ⟨ec, hm⟩ := cs_get hlt
    have hb := hcs _ hm
    have hAt := im.w.at
    have hk := hAt.k
    have hl := fnW_len cs p b2 j
    have hrs := fnW_rs cs p b2 j
    rw [l16_14]
    refine ⟨M, Mem.le_refl _, ?_⟩
    rw [if_pos (by simp; omega)]
    refine ⟨fun q => q g = M g ∧ Rd q r.a (fnW cs p j b2).rs ∧ Mem.le m q, ⟨rfl, hAt.r, leO M hO⟩, _, _, _, fun q hq => cell_of (hq.1.trans im.p) 0, _, fun q hq => cell_of (hq.1.trans im.p) 1, _, fun q hq => cell_of (hq.1.trans im.p) 2, _, fun q hq => cell_of (hq.1.trans im.p) 3, _, fun q hq => cell_of (hq.1.trans im.p) 4, _, fun q hq => cell_of (hq.1.trans im.p) 5, _, fun q hq => cell_of (hq.1.trans im.p) 6, _, fun q hq => cell_of (hq.1.trans im.p) 7, _, fun q hq => cell_of (hq.1.trans im.p) 8, _, _, _, fun q hq => cell_of (hq.1.trans im.p) 9, _, _, _, fun q hq => cell_of (hq.1.trans im.p) 9, ?_⟩
    refine liH (hR.le (leO M hO)) rfl (by omega) (by omega) fun ad had hd => ⟨_, fun q hq => hd q (hR.le hq.2.2), ?_⟩
    rw [ec]
    refine rgetH hAt.r hk hb.1 (by rw [hrs] at hk; omega) fun ad had c1 c2 => ⟨_, fun q hq => c1 q hq.2.1, _, fun q hq => c2 q hq.2.1, ?_⟩
    rw [w64 (x := p + 2) (by omega) (by omega), w64 (x := 2 * (j : Int)) (by omega) (by omega), w64 (x := p + 2 + 2 * (j : Int)) (by omega) (by omega), wsucc (n := j + 1) (by omega) (by omega)]
    refine via h46 ⟨s, r, _, D, _, ((fnW cs p j b2).rs.getD (cs.getD j 0).toNat (0, 0)), rfl, im.w, by omega, by omega, by omega, fun m1 o1 w1 => ⟨_, _, _, _, _, _, _, _, _, _, _, _, _, _, rfl, ⟨o1 g im.g, w1.at.r, leO m1 (hO.trans (Off.of_eq o1))⟩, ?_⟩⟩
    have q1 : Ptr m1 g s r (fnW cs p j b2) := (o1 g im.g).trans im.p
    refine put_all q1 w1 im.g fun m2 o2 im2 => ?_
    refine ih (j + 1) (by omega) m2 ((hO.trans (Off.of_eq o1)).fresh z1 o2) ?_ ?_
    · rw [o2 g3 n31, o1 g3 d3]; exact h3
    · rw [fnW_rs] at im2
      exact im2
theorem f16 (t : Tab) (h27 : look t 27 = s27) (h25 : look t 25 = s25) (h26 : look t 26 = s26) (h44 : look t 44 = s44) (h45 : look t 45 = s45) (h46 : look t 46 = s46) : ∀ args m Q, s16 args m Q → FA Tryz.prog (look t) kp16 Tryz.f16 args m Q := by
  rintro args m Q ⟨s, r, ⟨la, ln, lc⟩, a, pr, cs, i, rfl, hA, hw, hln, hR, hcl, hQ⟩
  have hln : ln = cs.length := hln
  have hR : Rd m la cs := hR
  subst hln
  show FA Tryz.prog (look t) kp16 Tryz.f16 [.agg #[.slice s.a s.n s.c, .int .i64 a.semi, .int .i64 a.to, .int .i64 a.top, .bool a.cyc, .int .i64 a.scan, .int .i64 a.old, .int .i64 a.cop, .int .i64 a.ser, .slice r.a r.n r.c], .int .i64 pr, .slice la cs.length lc, .int .i64 i] m Q
  rw [e16]
  refine newA_intro fun g1 m1 hg1 e1 hb1 hle1 => newA_intro fun g3 m2 hg3 e2 hb3 hle2 => ?_
  have l2 := Mem.le_trans hle1 hle2
  have p1 : Ptr m2 g1 s r a := hle2 _ _ hb1
  have z3 := le_none hle1 hg3
  refine ⟨_, _, _, cell_of p1 0, _, cell_of p1 1, _, cell_of p1 2, _, cell_of p1 3, _, cell_of p1 4, _, cell_of p1 5, _, cell_of p1 6, _, cell_of p1 7, _, cell_of p1 8, _, _, _, cell_of p1 9, via h27 ⟨s, r, a, rfl, hA.le l2, hw, fun s' r' D m3 l3 w3 f3 => ⟨_, _, _, _, _, _, _, _, _, _, _, _, _, _, rfl, ?_⟩⟩⟩
  have hD : ∀ b ∈ D, m b = none := fun b hb => le_none l2 (f3 b hb)
  have d3 : g3 ∉ D := fun h => by have := f3 g3 h; rw [hb3] at this; cases this
  refine newA_intro fun g5 m4 hg5 e4 hb5 hle4 => ?_
  obtain ⟨wa, wn, wc⟩ := s'
  obtain ⟨ra, rn, rc⟩ := r'
  refine sto_ar hb5 fun m5 e5 q5 ne5 => ?_
  have p5 : Ptr m5 g5 ⟨wa, wn, wc⟩ ⟨ra, rn, rc⟩ a := q5
  have l5 : Mem.le m3 m5 := le_other hle4 hg5 ne5
  have im5 : Im m5 g5 ⟨wa, wn, wc⟩ ⟨ra, rn, rc⟩ a D := ⟨p5, w3.le l5, w3.fresh hg5⟩
  have L5 := Mem.le_trans (Mem.le_trans l2 l3) l5
  have p15 : Ptr m5 g1 s r a := l5 _ _ (l3 _ _ p1)
  have h35 := l5 _ _ (l3 _ _ hb3)
  have hA5 := hA.le L5
  have hk5 := hA5.k
  -- nothing is made
  have bad : ¬ nfP a pr cs i → stT Q g5 g3 1 m5 := fun h => by
    have eA : nfA a pr cs i = (a, 1) := if_neg h
    rw [eA] at hQ
    exact ret_nc im5 h35 z3 d3 (Off.of_le L5) hD hQ
  have badL : ∀ (d j : Nat), ¬ nfP a pr cs i → L16_4 (look t) (d + 1) Q pr la cs.length lc i g1 g3 g5 false (j : Int) m5 := fun d j h => by
    rw [l16_4]
    refine ⟨m5, Mem.le_refl _, ?_⟩
    by_cases c : (j : Int) < cs.length
    · rw [if_pos (by simpa using c), if_neg (by decide), if_pos (by decide)]
      exact bad h
    · rw [if_neg (by simpa using c), if_pos (by decide)]
      exact bad h
  refine ⟨_, _, _, cell_of p15 0, _, cell_of p15 1, _, cell_of p15 2, _, cell_of p15 3, _, cell_of p15 4, _, cell_of p15 5, _, cell_of p15 6, _, cell_of p15 7, _, cell_of p15 8, _, _, _, cell_of p15 9, via h25 ⟨s, r, a, rfl, hA5, hw, _, rfl, ?_⟩⟩
  by_cases hk : okP a
  case neg => rw [pB_no hk, if_neg (by decide)]; exact ⟨1, badL 0 0 fun h => hk h.1⟩
  rw [pB_yes hk, if_pos rfl]
  refine ⟨_, _, _, cell_of p15 0, _, cell_of p15 1, _, cell_of p15 2, _, cell_of p15 3, _, cell_of p15 4, _, cell_of p15 5, _, cell_of p15 6, _, cell_of p15 7, _, cell_of p15 8, _, _, _, cell_of p15 9, via h26 ⟨s, r, a, i, rfl, hA5, hw, _, rfl, ?_⟩⟩
  by_cases hi : 0 ≤ i ∧ i < a.rs.length
  case neg => rw [decide_eq_false hi, if_neg (by decide)]; exact ⟨1, badL 0 0 fun h => hi h.2.1⟩
  rw [decide_eq_true hi, if_pos rfl]
  refine via h44 ⟨_, _, _, rfl, _, rfl, ?_⟩
  by_cases hp : 0 ≤ pr ∧ pr ≤ 255
  case neg => rw [decide_eq_false hp, if_neg (by decide)]; exact ⟨1, badL 0 0 fun h => hp h.2.2.1⟩
  rw [decide_eq_true hp, if_pos rfl]
  by_cases hn : cs.length ≤ 12
  case neg => rw [if_neg (by simp; omega)]; exact ⟨1, badL 0 0 fun h => hn h.2.2.2.1⟩
  rw [if_pos (by simp; omega)]
  refine ⟨_, cell_of p15 8, cs.length + 1, ?_⟩
  by_cases hs : a.ser < 1000000000
  case neg => rw [decide_eq_false hs]; exact badL cs.length 0 fun h => hs h.2.2.2.2.1
  rw [decide_eq_true hs]
  suffices key : ∀ (d j : Nat), j + d = cs.length → (∀ j' : Nat, j' < j → cellOk a (cs.getD j' 0)) → L16_4 (look t) (d + 1) Q pr la cs.length lc i g1 g3 g5 true (j : Int) m5 from key cs.length 0 (by omega) fun _ h => by omega
  intro d
  induction d with
  | zero =>
    intro j hj hall
    rw [l16_4]
    refine ⟨m5, Mem.le_refl _, ?_⟩
    rw [if_neg (by simp; omega), if_neg (by decide)]
    have hcs : ∀ c ∈ cs, cellOk a c := fun c hc => by
      obtain ⟨x, hx, e⟩ := List.mem_iff_getElem.1 hc
      have := hall x (by omega)
      rw [List.getD_eq_getElem?_getD, List.getElem?_eq_getElem hx] at this
      rw [← e]
      exact this
    have eA : nfA a pr cs i = nfR a pr cs i := if_pos ⟨hk, hi, hp, hn, hs, hcs⟩
    rw [eA] at hQ
    have hG := okC_of hw hk
    have hsz := nf_size hn
    obtain ⟨k1, k2, k3, k4⟩ := ask_ok hG hsz
    refine ⟨_, _, _, cell_of p5 0, _, cell_of p5 1, _, cell_of p5 2, _, cell_of p5 3, _, cell_of p5 4, _, cell_of p5 5, _, cell_of p5 6, _, cell_of p5 7, _, cell_of p5 8, _, _, _, cell_of p5 9, ?_⟩
    rw [w64 (x := 2 * (cs.length : Int)) (by omega) (by omega), w64 (x := 1 + 2 * (cs.length : Int)) (by omega) (by omega)]
    refine via h45 ⟨⟨wa, wn, wc⟩, ⟨ra, rn, rc⟩, a, D, 4, _, rfl, im5.w, hG, hsz, fun m6 o6 w6 => ⟨_, _, _, _, _, _, _, _, _, _, _, _, _, _, _, _, rfl, ?_⟩⟩
    unfold nfR at hQ
    generalize askA 4 (1 + 2 * (cs.length : Int)) a = q at *
    obtain ⟨b, p, c⟩ := q
    simp only at k1 k2 k4 hQ w6 ⊢
    refine newA_intro fun g7 m7 hg7 e7 hb7 hle7 => ?_
    refine sto_ar hb7 fun m8 e8 q8 ne8 => ?_
    have p8 : Ptr m8 g7 ⟨wa, wn, wc⟩ ⟨ra, rn, rc⟩ b := q8
    have l8 : Mem.le m6 m8 := le_other hle7 hg7 ne8
    have im8 : Im m8 g7 ⟨wa, wn, wc⟩ ⟨ra, rn, rc⟩ b D := ⟨p8, w6.le l8, w6.fresh hg7⟩
    have h38 := l8 _ _ ((o6 g3 d3).trans h35)
    have O8 : Off D m m8 := ((Off.of_le L5).trans (Off.of_eq o6)).trans (Off.of_le l8)
    have n37 : g3 ≠ g7 := fun e => by have h1 := (o6 g3 d3).trans h35; rw [e, hg7] at h1; cases h1
    have z7 : m g7 = none := by
      cases e : m g7 with
      | none => rfl
      | some o => have := (o6 g7 (w6.fresh hg7)).trans (L5 _ _ e); rw [hg7] at this; cases this
    by_cases hc : c = 0
    · rw [if_neg (by rw [hc]; decide)]
      rw [if_pos hc] at hQ
      subst hc
      obtain ⟨q0, q1⟩ := k4 rfl
      refine ⟨_, _, _, cell_of p8 0, ?_⟩
      rw [w64 (x := p + 1) (by omega) (by omega)]
      refine im8.put_w (by omega) (by omega) fun m9 o9 im9 => ⟨cs.length + 1, ?_⟩
      exact nf_loopS t h46 (b2 := { b with ws := setW b.ws (p + 1) (uW pr) }) z7 z3 d3 n37 hD hR (fun c hc => by have := (hcs c hc).1; show 0 ≤ c ∧ c < (b.rs.length : Int); omega) hn (by omega) (by show _ ≤ ((setW b.ws _ _).length : Int); rw [setW_len]; omega) (by show (setW b.ws _ _).length ≤ _; rw [setW_len]; omega) hi.1 (by show i < (b.rs.length : Int); omega) hQ cs.length 0 (by omega) m9 (O8.trans (Off.of_eq o9)) ((o9 g3 d3).trans h38) im9
    · rw [if_pos (by simpa using hc)]
      rw [if_neg hc] at hQ
      exact (ret_nc im8 h38 z3 d3 O8 hD hQ : stT Q g7 g3 c m8)
  | succ d ih =>
    intro j hj hall
    have hlt : j < cs.length := by omega
    obtain ⟨ec, hm⟩ := cs_get hlt
    rw [l16_4]
    refine ⟨m5, Mem.le_refl _, ?_⟩
    rw [if_pos (by simp; omega), if_pos rfl]
    refine ⟨Mem.le m5, Mem.le_refl _, _, _, _, held (cell_of p15 0), _, held (cell_of p15 1), _, held (cell_of p15 2), _, held (cell_of p15 3), _, held (cell_of p15 4), _, held (cell_of p15 5), _, held (cell_of p15 6), _, held (cell_of p15 7), _, held (cell_of p15 8), _, _, _, held (cell_of p15 9), ?_⟩
    refine liH (hR.le L5) rfl (by omega) (by omega) fun ad had hd => ⟨_, fun q hq => hd q ((hR.le L5).le hq), ?_⟩
    rw [ec]
    refine via h26 ⟨s, r, a, _, rfl, hA5, hw, _, rfl, Mem.le_refl _, ?_⟩
    rw [wsucc (n := j + 1) (by omega) (by omega)]
    by_cases hr : 0 ≤ cs.getD j 0 ∧ cs.getD j 0 < a.rs.length
    case neg => rw [decide_eq_false hr, if_neg (by decide)]; exact badL d (j + 1) fun h => hr (h.2.2.2.2.2 _ hm).1
    rw [decide_eq_true hr, if_pos rfl]
    refine ⟨_, _, _, held (cell_of p15 9), ?_⟩
    refine liH (hR.le L5) rfl (by omega) (by omega) fun ad had hd => ⟨_, fun q hq => hd q ((hR.le L5).le hq), ?_⟩
    rw [ec]
    refine rgetH hA5.r hk5 hr.1 (by omega) fun ad had c1 c2 => ⟨_, fun q hq => c1 q (hA5.r.le hq), ?_⟩
    by_cases ht : (a.rs.getD (cs.getD j 0).toNat (0, 0)).1 = 9
    · have eb : ((a.rs.getD (cs.getD j 0).toNat (0, 0)).1 == (9 : Int)) = true := by rw [ht]; rfl
      rw [eb]
      refine ih (j + 1) (by omega) fun j' hj' => ?_
      by_cases e : j' = j
      · rw [e]; exact ⟨hr, ht⟩
      · exact hall j' (by omega)
    · have eb : ((a.rs.getD (cs.getD j 0).toNat (0, 0)).1 == (9 : Int)) = false := by simpa using ht
      rw [eb]
      exact badL d (j + 1) fun h => ht (h.2.2.2.2.2 _ hm).2
def s18 : Spec := s16
theorem f18 (t : Tab) (h31 : look t 31 = s31) (h32 : look t 32 = s32) (h33 : look t 33 = s33) (h47 : look t 47 = s47) (h48 : look t 48 = s48) : ∀ args m Q, s18 args m Q → FA Tryz.prog (look t) kp18 Tryz.f18 args m Q := by
  rintro args m Q ⟨s, r, ⟨la, ln, lc⟩, a, pr, cs, i, rfl, hA, hw, hln, hR, hcl, hQ⟩
  have hln : ln = cs.length := hln
  have hR : Rd m la cs := hR
  subst hln
  show FA Tryz.prog (look t) kp18 Tryz.f18 [.agg #[.slice s.a s.n s.c, .int .i64 a.semi, .int .i64 a.to, .int .i64 a.top, .bool a.cyc, .int .i64 a.scan, .int .i64 a.old, .int .i64 a.cop, .int .i64 a.ser, .slice r.a r.n r.c], .int .i64 pr, .slice la cs.length lc, .int .i64 i] m Q
  rw [e18]
  refine newA_intro fun g1 m1 hg1 e1 hb1 hle1 => newA_intro fun g3 m2 hg3 e2 hb3 hle2 => ?_
  have l2 := Mem.le_trans hle1 hle2
  have p1 : Ptr m2 g1 s r a := hle2 _ _ hb1
  have z3 := le_none hle1 hg3
  refine ⟨_, _, _, cell_of p1 0, _, cell_of p1 1, _, cell_of p1 2, _, cell_of p1 3, _, cell_of p1 4, _, cell_of p1 5, _, cell_of p1 6, _, cell_of p1 7, _, cell_of p1 8, _, _, _, cell_of p1 9, via h31 ⟨s, r, a, rfl, hA.le l2, hw, fun s' r' D m3 l3 w3 f3 => ⟨_, _, _, _, _, _, _, _, _, _, _, _, _, _, rfl, ?_⟩⟩⟩
  have hD : ∀ b ∈ D, m b = none := fun b hb => le_none l2 (f3 b hb)
  have d3 : g3 ∉ D := fun h => by have := f3 g3 h; rw [hb3] at this; cases this
  refine newA_intro fun g5 m4 hg5 e4 hb5 hle4 => ?_
  obtain ⟨wa, wn, wc⟩ := s'
  obtain ⟨ra, rn, rc⟩ := r'
  refine sto_ar hb5 fun m5 e5 q5 ne5 => ?_
  have p5 : Ptr m5 g5 ⟨wa, wn, wc⟩ ⟨ra, rn, rc⟩ a := q5
  have l5 : Mem.le m3 m5 := le_other hle4 hg5 ne5
  have im5 : Im m5 g5 ⟨wa, wn, wc⟩ ⟨ra, rn, rc⟩ a D := ⟨p5, w3.le l5, w3.fresh hg5⟩
  have L5 := Mem.le_trans (Mem.le_trans l2 l3) l5
  have p15 : Ptr m5 g1 s r a := l5 _ _ (l3 _ _ p1)
  have h35 := l5 _ _ (l3 _ _ hb3)
  have n35 : g3 ≠ g5 := fun e => by rw [← e] at hg5; have := l3 _ _ hb3; rw [hg5] at this; cases this
  have z5 : m g5 = none := le_none (Mem.le_trans l2 l3) hg5
  have bad : ∀ M, Mem.le m5 M → ¬ nfP a pr cs i → stT Q g5 g3 1 M := fun M hM h => by
    have eA : nfA a pr cs i = (a, 1) := if_neg h
    rw [eA] at hQ
    exact ret_nc (im5.le hM) (hM _ _ h35) z3 d3 (Off.of_le (Mem.le_trans L5 hM)) hD hQ
  refine ⟨_, _, _, cell_of p15 0, _, cell_of p15 1, _, cell_of p15 2, _, cell_of p15 3, _, cell_of p15 4, _, cell_of p15 5, _, cell_of p15 6, _, cell_of p15 7, _, cell_of p15 8, _, _, _, cell_of p15 9, via h32 ⟨s, r, a, rfl, hA.le L5, hw, _, rfl, ?_⟩⟩
  by_cases hk : okP a
  case neg => rw [pB_no hk, if_pos (by decide)]; exact bad m5 (Mem.le_refl _) fun h => hk h.1
  rw [pB_yes hk, if_neg (by decide)]
  refine newA_intro fun g6 m6 hg6 e6 hb6 hle6 => via h33 ⟨g1, s, r, ⟨some ⟨g6, 0, none⟩, 1, 1⟩, a, [i], rfl, hle6 _ _ p15, (hA.le L5).le hle6, hw, rfl, Rd.of_block (spare := []) hb6 rfl, by show 1 ≤ 2 ^ 20; decide, _, rfl, ?_⟩
  by_cases hi : 0 ≤ i ∧ i < a.rs.length
  case neg => rw [decide_eq_false (show ¬ ∀ x ∈ [i], 0 ≤ x ∧ x < (a.rs.length : Int) from fun h => hi (h i (by simp))), if_pos (by decide)]; exact bad m6 hle6 fun h => hi h.2.1
  rw [decide_eq_true (show ∀ x ∈ [i], 0 ≤ x ∧ x < (a.rs.length : Int) from fun x hx => by simp at hx; rw [hx]; exact hi), if_neg (by decide)]
  refine via h47 ⟨_, _, _, rfl, _, rfl, ?_⟩
  by_cases hp : 0 ≤ pr ∧ pr ≤ 255
  case neg => rw [decide_eq_false hp, if_pos (by decide)]; exact bad m6 hle6 fun h => hp h.2.2.1
  rw [decide_eq_true hp, if_neg (by decide)]
  by_cases hn : cs.length ≤ 12
  case neg => rw [if_pos (by simp; omega)]; exact bad m6 hle6 fun h => hn h.2.2.2.1
  rw [if_neg (by simp; omega)]
  have p16 : Ptr m6 g1 s r a := hle6 _ _ p15
  refine ⟨_, cell_of p16 8, ?_⟩
  have hN := (okC_of hw hk).num.1
  have hz1 := hN.z1
  by_cases hs : a.ser < 1000000000
  case neg => rw [if_pos (by simp; omega)]; exact bad m6 hle6 fun h => hs h.2.2.2.2.1
  rw [if_neg (by simp; omega)]
  suffices key : ∀ (d j : Nat), j + d = cs.length → (∀ j' : Nat, j' < j → cellOk a (cs.getD j' 0)) → ∀ M, Mem.le m6 M → L18_5 (look t) (d + 1) Q pr la cs.length lc i g1 g3 g5 la cs.length lc (cs.length : Int) (j : Int) M from ⟨cs.length + 1, key cs.length 0 (by omega) (fun _ h => by omega) m6 (Mem.le_refl _)⟩
  intro d
  induction d with
  | zero =>
    intro j hj hall M hM
    rw [l18_5]
    refine ⟨M, Mem.le_refl _, ?_⟩
    rw [if_neg (by simp; omega)]
    have hcs : ∀ c ∈ cs, cellOk a c := fun c hc => by
      obtain ⟨x, hx, e⟩ := List.mem_iff_getElem.1 hc
      have := hall x (by omega)
      rw [List.getD_eq_getElem?_getD, List.getElem?_eq_getElem hx] at this
      rw [← e]
      exact this
    have eA : nfA a pr cs i = nfR a pr cs i := if_pos ⟨hk, hi, hp, hn, hs, hcs⟩
    rw [eA] at hQ
    have l6 := Mem.le_trans hle6 hM
    have L6 := Mem.le_trans L5 l6
    refine via h48 ⟨g5, _, _, ⟨la, cs.length, lc⟩, a, D, pr, cs, i, m, rfl, im5.le l6, okC_of hw hk, hn, fun c hc => (hcs c hc).1, hi, rfl, hR, L6, fun b hb => by
      rcases List.mem_cons.1 hb with e | e
      · rw [e]; exact z5
      · exact hD b e, fun m7 o7 im7 => ⟨_, rfl, ?_⟩⟩
    have h37 : m7 g3 = some (.cells #[.slice none 0 0, .int .i64 0, .int .i64 0, .int .i64 0, .bool false, .int .i64 0, .int .i64 0, .int .i64 0, .int .i64 0, .slice none 0 0] 29 (0, 0)) := (o7 g3 (by simp [n35, d3])).trans (l6 _ _ h35)
    have O7 : Off D m m7 := fun x o hx e => by
      rw [o7 x fun h => by rcases List.mem_cons.1 h with h | h; rw [h, z5] at e; cases e; exact hx h]
      exact L6 _ _ e
    exact (ret_nc im7 h37 z3 d3 O7 hD hQ : stT Q g5 g3 (nfR a pr cs i).2 m7)
  | succ d ih =>
    intro j hj hall M hM
    have hlt : j < cs.length := by omega
    obtain ⟨ec, hm⟩ := cs_get hlt
    have lM := Mem.le_trans L5 (Mem.le_trans hle6 hM)
    rw [l18_5]
    refine ⟨M, Mem.le_refl _, ?_⟩
    rw [if_pos (by simp; omega)]
    refine liH (hR.le lM) rfl (by omega) (by omega) fun ad had hd => ⟨_, hd _ (hR.le lM), ?_⟩
    rw [ec]
    refine newA_intro fun g8 m8 hg8 e8 hb8 hle8 => ?_
    have p8 : Ptr m8 g1 s r a := hle8 _ _ (hM _ _ p16)
    have hA8 := hA.le (Mem.le_trans lM hle8)
    have h8 := Mem.le_trans hM hle8
    refine via h33 ⟨g1, s, r, ⟨some ⟨g8, 0, none⟩, 1, 1⟩, a, [cs.getD j 0], rfl, p8, hA8, hw, rfl, Rd.of_block (spare := []) hb8 rfl, by show 1 ≤ 2 ^ 20; decide, _, rfl, ?_⟩
    by_cases hr : 0 ≤ cs.getD j 0 ∧ cs.getD j 0 < a.rs.length
    case neg => rw [decide_eq_false (show ¬ ∀ x ∈ [cs.getD j 0], 0 ≤ x ∧ x < (a.rs.length : Int) from fun h => hr (h _ (by simp))), if_pos (by decide)]; exact bad m8 (Mem.le_trans hle6 h8) fun h => hr (h.2.2.2.2.2 _ hm).1
    rw [decide_eq_true (show ∀ x ∈ [cs.getD j 0], 0 ≤ x ∧ x < (a.rs.length : Int) from fun x hx => by simp only [List.mem_singleton] at hx; rw [hx]; exact hr), if_neg (by decide)]
    refine ⟨_, _, _, cell_of p8 9, ?_⟩
    refine rget hA8.r hA8.k hr.1 (by have := hA8.k; omega) fun ad had c1 c2 => ⟨_, c1, ?_⟩
    rw [wsucc (n := j + 1) (by omega) (by omega)]
    by_cases ht : (a.rs.getD (cs.getD j 0).toNat (0, 0)).1 = 9
    · rw [if_neg (by rw [ht]; decide)]
      refine ih (j + 1) (by omega) (fun j' hj' => ?_) m8 h8
      by_cases e : j' = j
      · rw [e]; exact ⟨hr, ht⟩
      · exact hall j' (by omega)
    · rw [if_pos (by simpa using ht)]
      exact bad m8 (Mem.le_trans hle6 h8) fun h => ht (h.2.2.2.2.2 _ hm).2
end Go.Proofs.YtpdcjocjkbgddaaGreat.Abs
