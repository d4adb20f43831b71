/- Texts that are put. -/
import Derived.Test.YtpdcjocjkbgddaaGreatUl
import Derived.Test.YtpdcjocjkbgddaaGreatEqP
namespace Go.Proofs.YtpdcjocjkbgddaaGreat.Abs
open Go.RowKit
set_option linter.unusedVariables false
set_option linter.unusedSimpArgs false
set_option maxRecDepth 20000
/-- A word with a byte put into it. -/
def orW (w : Int) (b : UInt8) (k : Nat) : Int := IntKind.u64.wrap (BitVec.toNat (BitVec.ofInt (IntKind.bits .u64) w ||| BitVec.ofInt (IntKind.bits .u64) (IntKind.u64.wrap (IntKind.u64.wrap (UInt8.toNat b : Int) * 2 ^ min (Int.toNat ((k : Nat) : Int)) (IntKind.bits .u64)))))
def txW (s : ByteArray) (p : Int) (ws : List U64) : Nat → List U64
  | 0 => ws
  | i + 1 => setW (txW s p ws i) (p + 2 + ((i / 8 : Nat) : Int)) (orW (gw (txW s p ws i) (p + 2 + ((i / 8 : Nat) : Int))) (s[i]?.getD 0) (8 * (i % 8)))
theorem txW_len (s : ByteArray) (p : Int) (ws : List U64) : ∀ i : Nat, (txW s p ws i).length = ws.length
  | 0 => rfl
  | i + 1 => by unfold txW; rw [setW_len, txW_len s p ws i]
/-- A text is put, in a right arena. -/
def ptR (a : Ar) (s : ByteArray) (i : Int) : Ar × Int :=
  if (askA 1 (1 + ((s.size : Int) + 7) / 8) a).2.2 = 0 then ({ (askA 1 (1 + ((s.size : Int) + 7) / 8) a).1 with ws := txW s (askA 1 (1 + ((s.size : Int) + 7) / 8) a).2.1 (setW (askA 1 (1 + ((s.size : Int) + 7) / 8) a).1.ws ((askA 1 (1 + ((s.size : Int) + 7) / 8) a).2.1 + 1) s.size) s.size, rs := (askA 1 (1 + ((s.size : Int) + 7) / 8) a).1.rs.set i.toNat (3, (askA 1 (1 + ((s.size : Int) + 7) / 8) a).2.1) }, (askA 1 (1 + ((s.size : Int) + 7) / 8) a).2.2)
  else ((askA 1 (1 + ((s.size : Int) + 7) / 8) a).1, (askA 1 (1 + ((s.size : Int) + 7) / 8) a).2.2)
theorem pt_size {s : ByteArray} (h : s.size ≤ 160) : sizeB 1 (1 + ((s.size : Int) + 7) / 8) = true := by
  unfold sizeB
  rw [if_pos rfl, decide_eq_true_eq]
  omega
theorem pt_wrap {s : ByteArray} (h : s.size ≤ 160) : IntKind.i64.wrap (1 + IntKind.i64.wrap (Int.tdiv (IntKind.i64.wrap ((s.size : Int) + 7)) 8)) = 1 + ((s.size : Int) + 7) / 8 := by
  rw [w64 (x := (s.size : Int) + 7) (by omega) (by omega), Int.tdiv_eq_ediv_of_nonneg (by omega), w64 (x := ((s.size : Int) + 7) / 8) (by omega) (by omega), w64 (by omega) (by omega)]
theorem byte_at {s : ByteArray} {i : Nat} (h : i < s.size) : s[Int.toNat (i : Int)]? = some (s[i]?.getD 0) := by
  rw [Int.toNat_natCast, getElem?_pos s i h]
  rfl
theorem pt_loopI (t : Tab) {Q : Value → Mem → Prop} {g : Nat} {s r : Sl} {D : List Nat} {m0 : Mem} {tx : ByteArray} {b : Ar} {p into c : Int} (hn : tx.size ≤ 160) (p0 : 0 ≤ p) (p1 : p + 2 + ((tx.size : Int) + 7) / 8 ≤ b.ws.length) (p2 : b.ws.length ≤ 8000) (i0 : 0 ≤ into) (i1 : into < b.rs.length)
    (hK : ∀ M', Off (g :: D) m0 M' → Im M' g s r { b with ws := txW tx p b.ws tx.size, rs := b.rs.set into.toNat (3, p) } D → ret Q (.int .i64 c) M') :
    ∀ (d i : Nat), i + d = tx.size → ∀ M, Off (g :: D) m0 M → Im M g s r { b with ws := txW tx p b.ws i } D → L34_5 (look t) (d + 1) Q g tx into p c (tx.size : Int) (i : Int) M := by
  intro d
  induction d with
  | zero =>
    intro i hi M hO im
    rw [l34_5]
    refine ⟨M, Mem.le_refl _, ?_⟩
    rw [if_neg (by simp; omega)]
    have ei : i = tx.size := by omega
    subst ei
    refine ⟨_, _, _, cell_of im.p 9, im.put_r (v := (3, p)) i0 i1 fun m1 o1 im1 => ?_⟩
    exact hK m1 (hO.trans (Off.of_eq fun q hq => o1 q fun h => hq (by simp [h]))) im1
  | succ d ih =>
    intro i hi M hO im
    have hlt : i < tx.size := by omega
    have hAt := im.w.at
    obtain ⟨e1, e2⟩ := byte_idx (x := i) (p := p) (by omega) p0 (by omega)
    have hl : (txW tx p b.ws i).length = b.ws.length := txW_len _ _ _ _
    have hnn : (txW tx p b.ws i).length = s.n := hAt.n
    rw [l34_5]
    refine ⟨M, Mem.le_refl _, ?_⟩
    rw [if_pos (by simp; omega), e1, e2, wsucc (n := i + 1) (by omega) (by omega)]
    refine ⟨Mem.le M, Mem.le_refl _, _, _, _, held (cell_of im.p 0), by decide, ?_⟩
    refine wd hAt.w hAt.n (by omega) (by omega) fun ad had hd => ⟨_, hd, by omega, _, byte_at hlt, by decide, by omega, ?_⟩
    refine im.put_w (by omega) (by show _ < ((txW tx p b.ws i).length : Int); omega) fun m1 o1 im1 => ?_
    exact ih (i + 1) (by omega) m1 (hO.trans (Off.of_eq fun q hq => o1 q fun h => hq (by simp [h]))) im1
def s34 : Spec := fun args m Q => ∃ (g : Nat) (s r : Sl) (a : Ar) (D : List Nat) (tx : ByteArray) (i : Int), args = [.pointer (some ⟨g, 0, none⟩), .string tx, .int .i64 i] ∧ Im m g s r a D ∧ OkC a ∧ tx.size ≤ 160 ∧ (0 ≤ i ∧ i < a.rs.length) ∧
  ∀ m', (∀ b, b ∉ g :: D → m' b = m b) → Im m' g s r (ptR a tx i).1 D → Q (.int .i64 (ptR a tx i).2) m'
theorem f34 (t : Tab) (h69 : look t 69 = s69) : ∀ args m Q, s34 args m Q → FA Tryz.prog (look t) kp34 Tryz.f34 args m Q := by
  rintro args m Q ⟨g, s, r, a, D, tx, i, rfl, im, hG, hn, ⟨i0, i1⟩, hQ⟩
  rw [e34]
  have hsz := pt_size hn
  obtain ⟨k1, k2, k3, k4⟩ := ask_ok hG hsz
  refine ⟨by decide, ?_⟩
  rw [pt_wrap hn]
  refine via h69 ⟨g, s, r, a, D, 1, _, rfl, im, hG, hsz, fun m1 o1 im1 => ⟨_, _, rfl, ?_⟩⟩
  unfold ptR at hQ
  generalize askA 1 (1 + ((tx.size : Int) + 7) / 8) a = q at *
  obtain ⟨b, p, c⟩ := q
  simp only at k1 k2 k4 hQ im1 ⊢
  by_cases hc : c = 0
  · rw [if_pos (by rw [hc]; rfl)]
    rw [if_pos hc] at hQ
    obtain ⟨p0, p1⟩ := k4 hc
    refine ⟨_, _, _, cell_of im1.p 0, ?_⟩
    rw [w64 (x := p + 1) (by omega) (by omega), u64w (x := (tx.size : Int)) (by omega) (by omega)]
    refine im1.put_w (by omega) (by omega) fun m2 o2 im2 => ⟨tx.size + 1, ?_⟩
    refine pt_loopI t (b := { b with ws := setW b.ws (p + 1) tx.size }) hn (by omega) (by show p + 2 + _ ≤ ((setW b.ws _ _).length : Int); rw [setW_len]; omega) (by show (setW b.ws _ _).length ≤ _; rw [setW_len]; omega) i0 (by show i < (b.rs.length : Int); omega) (m0 := m) (fun M' O' im' => ?_) tx.size 0 (by omega) m2 ((Off.of_eq o1).trans (Off.of_eq fun q hq => o2 q fun h => hq (by simp [h]))) im2
    exact ret_off O' (hQ _ (fun b hb => mix_off hb) im'.mix)
  · rw [if_neg (by simpa using hc)]
    rw [if_neg hc] at hQ
    exact ret_off (Off.of_eq o1) (hQ _ (fun b hb => mix_off hb) im1.mix)
theorem pt_loopS (t : Tab) {Q : Value → Mem → Prop} {g g3 : Nat} {s r : Sl} {D : List Nat} {m0 : Mem} {tx : ByteArray} {b : Ar} {p into : Int} (z1 : m0 g = none) (z3 : m0 g3 = none) (d3 : g3 ∉ D) (hn : tx.size ≤ 160) (p0 : 0 ≤ p) (p1 : p + 2 + ((tx.size : Int) + 7) / 8 ≤ b.ws.length) (p2 : b.ws.length ≤ 8000) (i0 : 0 ≤ into) (i1 : into < b.rs.length)
    (hK : ∀ m', (∀ q, q ∉ D → m' q = m0 q) → Wo m' s r { b with ws := txW tx p b.ws tx.size, rs := b.rs.set into.toNat (3, p) } D → Q (.tuple #[vA s r { b with ws := txW tx p b.ws tx.size, rs := b.rs.set into.toNat (3, p) }, .int .i64 0]) m') :
    ∀ (d i : Nat), i + d = tx.size → ∀ M, Off D m0 M → M g3 = some (.cells #[.slice none 0 0, .int .i64 0, .int .i64 0, .int .i64 0, .bool false, .int .i64 0, .int .i64 0, .int .i64 0, .int .i64 0, .slice none 0 0] 29 (0, 0)) → Im M g s r { b with ws := txW tx p b.ws i } D → L28_6 (look t) (d + 1) Q tx into g3 g p (i : Int) M := by
  intro d
  induction d with
  | zero =>
    intro i hi M hO h3 im
    rw [l28_6]
    refine ⟨M, Mem.le_refl _, ?_⟩
    rw [if_neg (by simp; omega)]
    have ei : i = tx.size := by omega
    subst ei
    refine ⟨_, _, _, cell_of im.p 9, im.put_r (v := (3, p)) i0 i1 fun m1 o1 im1 => ?_⟩
    exact (stT_ok im1 ((o1 g3 d3).trans h3) z3 d3 (hO.trans (Off.of_eq o1)) hK : stT Q g g3 0 m1)
  | succ d ih =>
    intro i hi M hO h3 im
    have hlt : i < tx.size := by omega
    have hAt := im.w.at
    obtain ⟨e1, e2⟩ := byte_idx (x := i) (p := p) (by omega) p0 (by omega)
    have hl : (txW tx p b.ws i).length = b.ws.length := txW_len _ _ _ _
    have hnn : (txW tx p b.ws i).length = s.n := hAt.n
    rw [l28_6]
    refine ⟨M, Mem.le_refl _, ?_⟩
    rw [if_pos (by simp; omega), e1, e2, u64w (x := ((8 * (i % 8) : Nat) : Int)) (by omega) (by omega), wsucc (n := i + 1) (by omega) (by omega)]
    refine ⟨Mem.le M, Mem.le_refl _, _, _, _, held (cell_of im.p 0), by decide, _, _, _, held (cell_of im.p 0), by decide, ?_⟩
    refine wd hAt.w hAt.n (by omega) (by omega) fun ad had hd => ⟨_, hd, by omega, _, byte_at hlt, by decide, by omega, ?_⟩
    refine im.put_w (by omega) (by show _ < ((txW tx p b.ws i).length : Int); omega) fun m1 o1 im1 => ?_
    exact ih (i + 1) (by omega) m1 (hO.trans (Off.of_eq o1)) ((o1 g3 d3).trans h3) im1
def s28 : Spec := fun args m Q => ∃ (s r : Sl) (a : Ar) (D : List Nat) (tx : ByteArray) (i : Int), args = [vA s r a, .string tx, .int .i64 i] ∧ Wo m s r a D ∧ OkC a ∧ tx.size ≤ 160 ∧ (0 ≤ i ∧ i < a.rs.length) ∧
  ∀ m', (∀ b, b ∉ D → m' b = m b) → Wo m' s r (ptR a tx i).1 D → Q (.tuple #[vA s r (ptR a tx i).1, .int .i64 (ptR a tx i).2]) m'
theorem f28 (t : Tab) (h45 : look t 45 = s45) : ∀ args m Q, s28 args m Q → FA Tryz.prog (look t) kp28 Tryz.f28 args m Q := by
  rintro args m Q ⟨s, r, a, D, tx, i, rfl, hW, hG, hn, ⟨i0, i1⟩, hQ⟩
  show FA Tryz.prog (look t) kp28 Tryz.f28 [.agg #[.slice s.a s.n s.c, .int .i64 a.semi, .int .i64 a.to, .int .i64 a.top, .bool a.cyc, .int .i64 a.scan, .int .i64 a.old, .int .i64 a.cop, .int .i64 a.ser, .slice r.a r.n r.c], .string tx, .int .i64 i] m Q
  rw [e28]
  have hsz := pt_size hn
  obtain ⟨k1, k2, k3, k4⟩ := ask_ok hG hsz
  refine newA_intro fun g1 m1 hg1 e1 hb1 hle1 => newA_intro fun g3 m2 hg3 e2 hb3 hle2 => ?_
  have l2 := Mem.le_trans hle1 hle2
  have p1 : m2 g1 = some (.cells (cA s r a) 29 (0, 0)) := hle2 _ _ hb1
  have im := hW.loc hg1 p1 l2
  have z3 := le_none hle1 hg3
  have d3 := hW.fresh z3
  refine ⟨_, _, _, cell_of im.p 0, _, cell_of im.p 1, _, cell_of im.p 2, _, cell_of im.p 3, _, cell_of im.p 4, _, cell_of im.p 5, _, cell_of im.p 6, _, cell_of im.p 7, _, cell_of im.p 8, _, _, _, cell_of im.p 9, by decide, ?_⟩
  rw [pt_wrap hn]
  refine via h45 ⟨s, r, a, D, 1, _, rfl, im.w, hG, hsz, fun m3 o3 w3 => ⟨_, _, _, _, _, _, _, _, _, _, _, _, _, _, _, _, rfl, ?_⟩⟩
  unfold ptR at hQ
  generalize askA 1 (1 + ((tx.size : Int) + 7) / 8) a = q at *
  obtain ⟨b, p, c⟩ := q
  simp only at k1 k2 k4 hQ w3 ⊢
  obtain ⟨wa, wn, wc⟩ := s
  obtain ⟨ra, rn, rc⟩ := r
  refine newA_intro fun g5 m4 hg5 e4 hb5 hle4 => ?_
  refine sto_ar hb5 fun m5 e5 q5 ne5 => ?_
  have p5 : Ptr m5 g5 ⟨wa, wn, wc⟩ ⟨ra, rn, rc⟩ b := q5
  have l5 : Mem.le m3 m5 := le_other hle4 hg5 ne5
  have im5 : Im m5 g5 ⟨wa, wn, wc⟩ ⟨ra, rn, rc⟩ b D := ⟨p5, w3.le l5, w3.fresh hg5⟩
  have O3 : Off D m m3 := (Off.of_le l2).trans (Off.of_eq o3)
  have h35 := l5 _ _ ((o3 g3 d3).trans hb3)
  have O5 : Off D m m5 := O3.trans (Off.of_le l5)
  have z5 : m g5 = none := O3.none hg5 (w3.fresh hg5)
  by_cases hc : c = 0
  · rw [if_neg (by rw [hc]; decide)]
    rw [if_pos hc] at hQ
    subst hc
    obtain ⟨q0, q1⟩ := k4 rfl
    refine ⟨_, _, _, cell_of p5 0, ?_⟩
    rw [w64 (x := p + 1) (by omega) (by omega), u64w (x := (tx.size : Int)) (by omega) (by omega)]
    refine im5.put_w (by omega) (by omega) fun m6 o6 im6 => ⟨tx.size + 1, ?_⟩
    exact pt_loopS t (b := { b with ws := setW b.ws (p + 1) tx.size }) z5 z3 d3 hn (by omega) (by show p + 2 + _ ≤ ((setW b.ws _ _).length : Int); rw [setW_len]; omega) (by show (setW b.ws _ _).length ≤ _; rw [setW_len]; omega) i0 (by show i < (b.rs.length : Int); omega) hQ tx.size 0 (by omega) m6 (O5.trans (Off.of_eq o6)) ((o6 g3 d3).trans h35) im6
  · rw [if_pos (by simpa using hc)]
    rw [if_neg hc] at hQ
    exact (stT_ok im5 h35 z3 d3 O5 hQ : stT Q g5 g3 c m5)
open Classical in
noncomputable def ptA (a : Ar) (s : ByteArray) (i : Int) : Ar × Int := if okP a ∧ (0 ≤ i ∧ i < a.rs.length) ∧ s.size ≤ 160 then ptR a s i else (a, 1)
def ptB (call : FuncId → Spec) (Q : Value → Mem → Prop) (g1 g3 : Nat) (m30 : Mem) : Prop :=
  shP_1 call Q m30 g1 g3
theorem ptB_ok (t : Tab) (h27 : look t 27 = s27) {Q : Value → Mem → Prop} {g1 g3 : Nat} {s r : Sl} {a : Ar} {M m : Mem} (p : Ptr M g1 s r a) (hA : ArAt M s r a) (hw : a.wf) (h3 : M g3 = some (.cells #[.slice none 0 0, .int .i64 0, .int .i64 0, .int .i64 0, .bool false, .int .i64 0, .int .i64 0, .int .i64 0, .int .i64 0, .slice none 0 0] 29 (0, 0))) (z3 : m g3 = none) (hl : Mem.le m M) (hQ : ncK m (a, 1) Q) : ptB (look t) Q g1 g3 M := by
  unfold ptB
  refine ⟨_, _, _, cell_of p 0, _, cell_of p 1, _, cell_of p 2, _, cell_of p 3, _, cell_of p 4, _, cell_of p 5, _, cell_of p 6, _, cell_of p 7, _, cell_of p 8, _, _, _, cell_of p 9, via h27 ⟨s, r, a, rfl, hA, hw, fun s' r' D m3 l3 w3 f3 => ⟨_, _, _, _, _, _, _, _, _, _, _, _, _, _, rfl, ?_⟩⟩⟩
  obtain ⟨wa, wn, wc⟩ := s'
  obtain ⟨ra, rn, rc⟩ := r'
  have d3 : g3 ∉ D := fun h => by have := f3 g3 h; rw [h3] at this; cases this
  refine sto_ar (l3 _ _ h3) fun m4 e4 q4 ne4 => ?_
  have p4 : Ptr m4 g3 ⟨wa, wn, wc⟩ ⟨ra, rn, rc⟩ a := q4
  refine ⟨_, _, _, cell_of p4 0, _, cell_of p4 1, _, cell_of p4 2, _, cell_of p4 3, _, cell_of p4 4, _, cell_of p4 5, _, cell_of p4 6, _, cell_of p4 7, _, cell_of p4 8, _, _, _, cell_of p4 9, ?_⟩
  exact ret_intro (Mem.le_refl _) (hQ _ _ D m4 (le_other (Mem.le_trans hl l3) z3 ne4) (w3.ext fun q hq => ne4 q fun e => d3 (e ▸ hq)) fun b hb => le_none hl (f3 b hb))
def s8 : Spec := fun args m Q => ∃ (s r : Sl) (a : Ar) (tx : ByteArray) (i : Int), args = [vA s r a, .string tx, .int .i64 i] ∧ ArAt m s r a ∧ a.wf ∧ ncK m (ptA a tx i) Q
theorem f8 (t : Tab) (h27 : look t 27 = s27) (h25 : look t 25 = s25) (h26 : look t 26 = s26) (h28 : look t 28 = s28) : ∀ args m Q, s8 args m Q → FA Tryz.prog (look t) kp8 Tryz.f8 args m Q := by
  rintro args m Q ⟨s, r, a, tx, i, rfl, hA, hw, hQ⟩
  show FA Tryz.prog (look t) kp8 Tryz.f8 [.agg #[.slice s.a s.n s.c, .int .i64 a.semi, .int .i64 a.to, .int .i64 a.top, .bool a.cyc, .int .i64 a.scan, .int .i64 a.old, .int .i64 a.cop, .int .i64 a.ser, .slice r.a r.n r.c], .string tx, .int .i64 i] m Q
  rw [e8]
  refine newA_intro fun g1 m1 hg1 e1 hb1 hle1 => newA_intro fun g3 m2 hg3 e2 hb3 hle2 => ?_
  have l2 := Mem.le_trans hle1 hle2
  have p1 : Ptr m2 g1 s r a := hle2 _ _ hb1
  have z3 := le_none hle1 hg3
  have hA2 := hA.le l2
  have bad : ptA a tx i = (a, 1) → ptB (look t) Q g1 g3 m2 := fun e => by
    rw [e] at hQ
    exact ptB_ok t h27 p1 hA2 hw hb3 z3 l2 hQ
  refine ⟨_, _, _, cell_of p1 0, _, cell_of p1 1, _, cell_of p1 2, _, cell_of p1 3, _, cell_of p1 4, _, cell_of p1 5, _, cell_of p1 6, _, cell_of p1 7, _, cell_of p1 8, _, _, _, cell_of p1 9, via h25 ⟨s, r, a, rfl, hA2, hw, _, rfl, ?_⟩⟩
  by_cases hk : okP a
  · rw [pB_yes hk, if_neg (by decide)]
    refine ⟨_, _, _, cell_of p1 0, _, cell_of p1 1, _, cell_of p1 2, _, cell_of p1 3, _, cell_of p1 4, _, cell_of p1 5, _, cell_of p1 6, _, cell_of p1 7, _, cell_of p1 8, _, _, _, cell_of p1 9, via h26 ⟨s, r, a, i, rfl, hA2, hw, _, rfl, ?_⟩⟩
    by_cases hi : 0 ≤ i ∧ i < a.rs.length
    · rw [decide_eq_true hi, if_neg (by decide)]
      by_cases hn : tx.size ≤ 160
      · rw [if_neg (by simp; omega)]
        have eA : ptA a tx i = ptR a tx i := if_pos ⟨hk, hi, hn⟩
        rw [eA] at hQ
        refine ⟨_, _, _, cell_of p1 0, _, cell_of p1 1, _, cell_of p1 2, _, cell_of p1 3, _, cell_of p1 4, _, cell_of p1 5, _, cell_of p1 6, _, cell_of p1 7, _, cell_of p1 8, _, _, _, cell_of p1 9, via h27 ⟨s, r, a, rfl, hA2, hw, fun s' r' D m3 l3 w3 f3 => ⟨_, _, _, _, _, _, _, _, _, _, _, _, _, _, rfl, ?_⟩⟩⟩
        have d3 : g3 ∉ D := fun h => by have := f3 g3 h; rw [hb3] at this; cases this
        refine via h28 ⟨s', r', a, D, tx, i, rfl, w3, okC_of hw hk, hn, hi, fun m4 o4 w4 => ⟨_, _, _, _, _, _, _, _, _, _, _, _, _, _, _, rfl, ?_⟩⟩
        obtain ⟨wa, wn, wc⟩ := s'
        obtain ⟨ra, rn, rc⟩ := r'
        have hD : ∀ b ∈ D, m b = none := fun b hb => le_none l2 (f3 b hb)
        refine sto_ar ((o4 g3 d3).trans (l3 _ _ hb3)) fun m5 e5 q5 ne5 => ?_
        have p5 : Ptr m5 g3 ⟨wa, wn, wc⟩ ⟨ra, rn, rc⟩ (ptR a tx i).1 := q5
        refine ⟨_, _, _, cell_of p5 0, _, cell_of p5 1, _, cell_of p5 2, _, cell_of p5 3, _, cell_of p5 4, _, cell_of p5 5, _, cell_of p5 6, _, cell_of p5 7, _, cell_of p5 8, _, _, _, cell_of p5 9, ?_⟩
        refine ret_intro (Mem.le_refl _) (hQ _ _ D m5 (fun b o ho => ?_) (w4.ext fun q hq => ne5 q fun e => d3 (e ▸ hq)) hD)
        rw [ne5 b (fun e => by rw [e, z3] at ho; cases ho), o4 b fun hb => by rw [hD b hb] at ho; cases ho]
        exact l3 _ _ (l2 _ _ ho)
      · rw [if_pos (by simp; omega)]
        exact bad (if_neg fun h => hn h.2.2)
    · rw [decide_eq_false hi, if_pos (by decide)]
      exact bad (if_neg fun h => hi h.2.1)
  · rw [pB_no hk, if_pos (by decide)]
    exact bad (if_neg fun h => hk h.1)
def s10 : Spec := s8
theorem f10 (t : Tab) (h31 : look t 31 = s31) (h32 : look t 32 = s32) (h33 : look t 33 = s33) (h34 : look t 34 = s34) : ∀ args m Q, s10 args m Q → FA Tryz.prog (look t) kp10 Tryz.f10 args m Q := by
  rintro args m Q ⟨s, r, a, tx, i, rfl, hA, hw, hQ⟩
  show FA Tryz.prog (look t) kp10 Tryz.f10 [.agg #[.slice s.a s.n s.c, .int .i64 a.semi, .int .i64 a.to, .int .i64 a.top, .bool a.cyc, .int .i64 a.scan, .int .i64 a.old, .int .i64 a.cop, .int .i64 a.ser, .slice r.a r.n r.c], .string tx, .int .i64 i] m Q
  rw [e10]
  refine newA_intro fun g1 m1 hg1 e1 hb1 hle1 => newA_intro fun g3 m2 hg3 e2 hb3 hle2 => ?_
  have l2 := Mem.le_trans hle1 hle2
  have p1 : Ptr m2 g1 s r a := hle2 _ _ hb1
  have n13 : g1 ≠ g3 := ne_of_none hg3 hb1
  have z3 := le_none hle1 hg3
  refine ⟨_, _, _, cell_of p1 0, _, cell_of p1 1, _, cell_of p1 2, _, cell_of p1 3, _, cell_of p1 4, _, cell_of p1 5, _, cell_of p1 6, _, cell_of p1 7, _, cell_of p1 8, _, _, _, cell_of p1 9, via h31 ⟨s, r, a, rfl, hA.le l2, hw, fun s' r' D m3 l3 w3 f3 => ⟨_, _, _, _, _, _, _, _, _, _, _, _, _, _, rfl, ?_⟩⟩⟩
  have hD : ∀ b ∈ D, m b = none := fun b hb => le_none l2 (f3 b hb)
  have d3 : g3 ∉ D := fun h => by have := f3 g3 h; rw [hb3] at this; cases this
  refine newA_intro fun g5 m4 hg5 e4 hb5 hle4 => ?_
  obtain ⟨wa, wn, wc⟩ := s'
  obtain ⟨ra, rn, rc⟩ := r'
  refine sto_ar hb5 fun m5 e5 q5 ne5 => ?_
  have p5 : Ptr m5 g5 ⟨wa, wn, wc⟩ ⟨ra, rn, rc⟩ a := q5
  have l5 : Mem.le m3 m5 := le_other hle4 hg5 ne5
  have im5 : Im m5 g5 ⟨wa, wn, wc⟩ ⟨ra, rn, rc⟩ a D := ⟨p5, w3.le l5, w3.fresh hg5⟩
  have L5 := Mem.le_trans (Mem.le_trans l2 l3) l5
  have p15 : Ptr m5 g1 s r a := l5 _ _ (l3 _ _ p1)
  have h35 := l5 _ _ (l3 _ _ hb3)
  refine ⟨_, _, _, cell_of p15 0, _, cell_of p15 1, _, cell_of p15 2, _, cell_of p15 3, _, cell_of p15 4, _, cell_of p15 5, _, cell_of p15 6, _, cell_of p15 7, _, cell_of p15 8, _, _, _, cell_of p15 9, via h32 ⟨s, r, a, rfl, hA.le L5, hw, _, rfl, ?_⟩⟩
  by_cases hk : okP a
  · rw [pB_yes hk, if_neg (by decide)]
    refine newA_intro fun g6 m6 hg6 e6 hb6 hle6 => via h33 ⟨g1, s, r, ⟨some ⟨g6, 0, none⟩, 1, 1⟩, a, [i], rfl, hle6 _ _ p15, (hA.le L5).le hle6, hw, rfl, Rd.of_block (spare := []) hb6 rfl, by show 1 ≤ 2 ^ 20; decide, _, rfl, ?_⟩
    have im6 := im5.le hle6
    have h36 := hle6 _ _ h35
    have L6 := Mem.le_trans L5 hle6
    by_cases hi : 0 ≤ i ∧ i < a.rs.length
    · rw [decide_eq_true (show ∀ x ∈ [i], 0 ≤ x ∧ x < (a.rs.length : Int) from fun x hx => by simp at hx; rw [hx]; exact hi), if_neg (by decide)]
      by_cases hn : tx.size ≤ 160
      · rw [if_neg (by simp; omega)]
        have eA : ptA a tx i = ptR a tx i := if_pos ⟨hk, hi, hn⟩
        rw [eA] at hQ
        refine via h34 ⟨g5, _, _, a, D, tx, i, rfl, im6, okC_of hw hk, hn, hi, fun m7 o7 im7 => ⟨_, rfl, ?_⟩⟩
        have n35 : g3 ≠ g5 := fun e => by rw [← e] at hg5; have := l3 _ _ hb3; rw [hg5] at this; cases this
        have h37 : m7 g3 = some (.cells #[.slice none 0 0, .int .i64 0, .int .i64 0, .int .i64 0, .bool false, .int .i64 0, .int .i64 0, .int .i64 0, .int .i64 0, .slice none 0 0] 29 (0, 0)) := (o7 g3 (by simp [n35, d3])).trans h36
        have z5 : m g5 = none := le_none (Mem.le_trans l2 l3) hg5
        have O7 : Off D m m7 := fun x o hx e => by
          rw [o7 x fun h => by rcases List.mem_cons.1 h with h | h; rw [h, z5] at e; cases e; exact hx h]
          exact L6 _ _ e
        exact (ret_nc im7 h37 z3 d3 O7 hD hQ : stT Q g5 g3 (ptR a tx i).2 m7)
      · rw [if_pos (by simp; omega)]
        have eA : ptA a tx i = (a, 1) := if_neg fun h => hn h.2.2
        rw [eA] at hQ
        exact (ret_nc im6 h36 z3 d3 (Off.of_le L6) hD hQ : stT Q g5 g3 1 m6)
    · rw [decide_eq_false (show ¬ ∀ x ∈ [i], 0 ≤ x ∧ x < (a.rs.length : Int) from fun h => hi (h i (by simp))), if_pos (by decide)]
      have eA : ptA a tx i = (a, 1) := if_neg fun h => hi h.2.1
      rw [eA] at hQ
      exact (ret_nc im6 h36 z3 d3 (Off.of_le L6) hD hQ : stT Q g5 g3 1 m6)
  · rw [pB_no hk, if_pos (by decide)]
    have eA : ptA a tx i = (a, 1) := if_neg fun h => hk h.1
    rw [eA] at hQ
    exact (ret_nc im5 h35 z3 d3 (Off.of_le L5) hD hQ : stT Q g5 g3 1 m5)
theorem ptA_len {a : Ar} {s : ByteArray} {i : Int} (hw : a.wf) : (ptA a s i).1.ws.length = a.ws.length ∧ (ptA a s i).1.rs.length = a.rs.length := by
  unfold ptA
  split
  · rename_i hk
    obtain ⟨k1, k2, k3, k4⟩ := ask_ok (okC_of hw hk.1) (pt_size hk.2.2)
    unfold ptR
    split
    · refine ⟨?_, ?_⟩
      · show (txW _ _ (setW _ _ _) _).length = _
        rw [txW_len, setW_len]; exact k1
      · show (List.set _ _ _).length = _
        rw [List.length_set]; exact k2
    · exact ⟨k1, k2⟩
  · exact ⟨rfl, rfl⟩
end Go.Proofs.YtpdcjocjkbgddaaGreat.Abs
