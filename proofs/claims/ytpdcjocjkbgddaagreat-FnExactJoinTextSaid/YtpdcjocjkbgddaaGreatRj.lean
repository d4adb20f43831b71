/- Arenas: the bytes of a text. -/
import Derived.Test.YtpdcjocjkbgddaaGreatRi
import Derived.Test.YtpdcjocjkbgddaaGreatEqT
namespace Go.Proofs.YtpdcjocjkbgddaaGreat.Abs
open Go.RowKit
set_option linter.unusedVariables false
set_option linter.unusedSimpArgs false
set_option maxRecDepth 20000
def byteI (ws : List U64) (p : Int) (i : Nat) : Int := IntKind.u8.wrap (gw ws (p + 2 + ((i / 8 : Nat) : Int)) / ((2 ^ (8 * (i % 8)) : Nat) : Int))
theorem u8_range (x : Int) : 0 ≤ IntKind.u8.wrap x ∧ IntKind.u8.wrap x < 256 := by
  unfold IntKind.wrap
  simp [IntKind.bits, IntKind.signed]
  omega
def byteW (ws : List U64) (p : Int) (i : Nat) : UInt8 := UInt8.ofNat (byteI ws p i).toNat
theorem byteW_eq (ws : List U64) (p : Int) (i : Nat) : ((byteW ws p i).toNat : Int) = byteI ws p i := by
  have h := u8_range (gw ws (p + 2 + ((i / 8 : Nat) : Int)) / ((2 ^ (8 * (i % 8)) : Nat) : Int))
  unfold byteW
  rw [UInt8.toNat_ofNat']
  unfold byteI
  omega
def textN (ws : List U64) (p : Int) : Nat := (gw ws (p + 1)).toNat
def textL (ws : List U64) (p : Int) : List UInt8 := (List.range (textN ws p)).map (byteW ws p)
def textS (ws : List U64) (p : Int) : ByteArray := ⟨(textL ws p).toArray⟩
/-- A text that is right stands at a place. -/
structure TextAt (a : Ar) (p : Int) : Prop where
  p0 : 0 ≤ p
  n : gw a.ws (p + 1) ≤ 160
  pz : p + 1 + (gw a.ws (p + 1) + 7) / 8 < a.ws.length
  p1 : p + 1 < a.ws.length
def rowU (ws : List U64) (p : Int) (n i : Nat) : List U8 := (List.range i).map (fun j => (⟨byteI ws p j⟩ : U8)) ++ (List.replicate n (⟨0⟩ : U8)).drop i
theorem flat_u8 (l : List U8) : flat Enc.e l = l.map fun x => Value.int .u8 x.v := by
  induction l with
  | nil => rfl
  | cons x l ih => rw [flat_cons, ih]; rfl
theorem byte_idx {x : Nat} (h : x < 160) {p : Int} (p0 : 0 ≤ p) (pn : p ≤ 2 ^ 20) : IntKind.i64.wrap (IntKind.i64.wrap (p + 2) + IntKind.i64.wrap (Int.tdiv (x : Int) 8)) = p + 2 + ((x / 8 : Nat) : Int) ∧ IntKind.i64.wrap (8 * Int.tmod (x : Int) 8) = ((8 * (x % 8) : Nat) : Int) := by
  rw [Int.tdiv_eq_ediv_of_nonneg (by omega), Int.tmod_eq_emod_of_nonneg (by omega), w64 (x := p + 2) (by omega) (by omega), w64 (x := (x : Int) / 8) (by omega) (by omega), w64 (by omega) (by omega), w64 (by omega) (by omega)]
  constructor <;> omega
theorem rowU_end {ws : List U64} {p : Int} {n : Nat} {m : Mem} {g : Nat} (hn : n = textN ws p) (h : m g = some (.cells (flat Enc.e (rowU ws p n n) ++ []).toArray 5 (0, 0))) : (textL ws p).length = n ∧ CellsAt m (some ⟨g, 0, none⟩) ((textL ws p).map fun b => .int .u8 b.toNat) := by
  subst hn
  refine ⟨by simp [textL], ?_⟩
  have := cellsAt_block h
  rw [flat_u8] at this
  have e : (rowU ws p (textN ws p) (textN ws p)).map (fun x => Value.int .u8 x.v) = (textL ws p).map fun b => .int .u8 b.toNat := by
    unfold rowU textL
    simp only [List.map_append, List.map_map, List.drop_replicate, Nat.sub_self, List.replicate_zero, List.append_nil, List.map_nil]
    refine List.map_congr_left fun j _ => ?_
    show Value.int .u8 (byteI ws p j) = Value.int .u8 ((byteW ws p j).toNat : Int)
    rw [byteW_eq]
  rwa [e] at this
theorem rowU_set {ws : List U64} {p : Int} {n i : Nat} (hi : i < n) : (rowU ws p n i).set i ⟨byteI ws p i⟩ = rowU ws p n (i + 1) := upd_row _ _ _ (by simpa using hi)
theorem loopT (t : Tab) {Q : Value → Mem → Prop} {s r : Sl} {a : Ar} {p : Int} {g gr : Nat} {m : Mem} {n : Nat} (hw : a.wf) (hT : TextAt a p) (hn : n = textN a.ws p) (hg : m gr = none) (hQ : ∀ M, Mem.le m M → ret Q (.string (textS a.ws p)) M) (hP : Ptr m g s r a) (hA : ArAt m s r a) :
    ∀ (d i : Nat), i + d = n → ∀ M : Mem, Mem.le m M → M gr = some (.cells (flat Enc.e (rowU a.ws p n i) ++ []).toArray 5 (0, 0)) →
      L42_4 (look t) (d + 1) Q p g (n : Int) (some ⟨gr, 0, none⟩) n n (i : Int) M ∧ L72_4 (look t) (d + 1) Q g p (some ⟨gr, 0, none⟩) n n (n : Int) (i : Int) M := by
  intro d
  have n160 : n ≤ 160 := by rw [hn]; unfold textN; have := hT.n; omega
  have p0 := hT.p0
  have pz := hT.pz
  have p1 := hT.p1
  have hN := hw.n
  have hnn := hA.n
  induction d with
  | zero =>
    intro i hi M hle hb
    have hin : i = n := by omega
    rw [hin] at hb
    obtain ⟨e1, e2⟩ := rowU_end hn hb
    constructor
    · rw [l42_4]
      refine ⟨M, Mem.le_refl _, ?_⟩
      rw [if_neg (by simp; omega)]
      exact ⟨textL a.ws p, e1, e2, hQ M hle⟩
    · rw [l72_4]
      refine ⟨M, Mem.le_refl _, ?_⟩
      rw [if_neg (by simp; omega)]
      exact ⟨textL a.ws p, e1, e2, hQ M hle⟩
  | succ d ih =>
    intro i hi M hle hb
    have hin : i < n := by omega
    obtain ⟨i1, i2⟩ := byte_idx (x := i) (by omega) p0 (by omega)
    have hr : p + 2 + ((i / 8 : Nat) : Int) < a.ws.length := by
      have : (n : Int) = gw a.ws (p + 1) := by rw [hn]; unfold textN; have := (gw_in hw.w (p + 1)).1; omega
      omega
    have ip : Ptr M g s r a := hle _ _ hP
    have hA := hA.le hle
    have sh : ∀ w : Int, IntKind.u8.wrap (Int.fdiv w (2 ^ min (Int.toNat ((8 * (i % 8) : Nat) : Int)) (IntKind.bits .u64))) = IntKind.u8.wrap (w / ((2 ^ (8 * (i % 8)) : Nat) : Int)) := by
      intro w
      rw [fdiv_shr w (8 * (i % 8)) (by omega)]
    have step : ∀ K : Mem → Prop, (∀ M', Mem.le m M' → M' gr = some (.cells (flat Enc.e (rowU a.ws p n (i + 1)) ++ []).toArray 5 (0, 0)) → K M') →
        stoA M ((⟨gr, 0, none⟩ : Addr).add (Int.toNat (i : Int) * 1)) [.int .u8 (byteI a.ws p i)] K := by
      intro K hK
      refine sto_elem (x := (⟨byteI a.ws p i⟩ : U8)) (i := i) hb (by rw [add_eq rfl, Nat.zero_add]; rfl) (by unfold rowU; simp; omega) ?_
      rw [rowU_set hin]
      refine hK _ (le_upd_fresh hle hg) (upd_same _ _ _)
    constructor
    · rw [l42_4]
      refine ⟨M, Mem.le_refl _, ?_⟩
      rw [if_pos (by simp; omega), i1, i2, u64w (x := ((8 * (i % 8) : Nat) : Int)) (by omega) (by omega), wsucc hin (by omega)]
      refine ⟨_, _, _, cell_of ip 0, by decide, wd hA.w hnn (by omega) (by omega) fun ad had hd => ⟨_, hd _ (Mem.le_refl _), by decide, by omega, po ⟨by omega, by omega, ?_⟩⟩⟩
      rw [sh]
      exact step _ fun M' hle' hb' => (ih (i + 1) (by omega) M' hle' hb').1
    · rw [l72_4]
      refine ⟨M, Mem.le_refl _, ?_⟩
      rw [if_pos (by simp; omega), i1, i2, wsucc hin (by omega)]
      refine ⟨_, _, _, cell_of ip 0, by decide, wd hA.w hnn (by omega) (by omega) fun ad had hd => ⟨_, hd _ (Mem.le_refl _), by decide, by omega, po ⟨by omega, by omega, ?_⟩⟩⟩
      rw [sh]
      exact step _ fun M' hle' hb' => (ih (i + 1) (by omega) M' hle' hb').2
def s42 : Spec := fun args m Q => ∃ (s r : Sl) (a : Ar) (p : Int), args = [vA s r a, .int .i64 p] ∧ ArAt m s r a ∧ a.wf ∧ TextAt a p ∧ Q (.string (textS a.ws p)) m
theorem row0 (ws : List U64) (p : Int) (n : Nat) {m : Mem} {g : Nat} (h : m g = some (.cells (zeroRow #[.int .u8 (0 : Int)] (n * 1)) 5 (0, 0))) : m g = some (.cells (flat Enc.e (rowU ws p n 0) ++ []).toArray 5 (0, 0)) := by
  rw [h]
  have := zeroRow_eq (α := U8) ⟨0⟩ n
  have e : rowU ws p n 0 = List.replicate n ⟨0⟩ := by simp [rowU]
  rw [e, List.append_nil]
  exact congrArg some (congrArg (fun c => Obj.cells c 5 (0, 0)) this)
theorem f42 (t : Tab) (h71 : look t 71 = s71) : ∀ args m Q, s42 args m Q → FA Tryz.prog (look t) kp42 Tryz.f42 args m Q := by
  rintro args m Q ⟨s, r, a, p, rfl, hA, hw, hT, hQ⟩
  show FA Tryz.prog (look t) kp42 Tryz.f42 [.agg #[.slice s.a s.n s.c, .int .i64 a.semi, .int .i64 a.to, .int .i64 a.top, .bool a.cyc, .int .i64 a.scan, .int .i64 a.old, .int .i64 a.cop, .int .i64 a.ser, .slice r.a r.n r.c], .int .i64 p] m Q
  rw [e42]
  have hN := hw.n
  have p1 := hT.p1
  have y := (gw_in hw.w (p + 1)).1
  have n160 := hT.n
  refine newA_intro fun g1 m2 hg1 e2 hb1 hle2 => ⟨_, _, _, cell_of hb1 0, _, cell_of hb1 1, _, cell_of hb1 2, _, cell_of hb1 3, _, cell_of hb1 4, _, cell_of hb1 5, _, cell_of hb1 6, _, cell_of hb1 7, _, cell_of hb1 8, _, _, _, cell_of hb1 9, via h71 ⟨s, r, a, p, 1, rfl, hA.le hle2, hw, hT.p0, by decide, by omega, ?_⟩⟩
  have e : wordW a.ws p 1 = (textN a.ws p : Int) := by
    unfold wordW textN
    rw [w64 (by omega) (by omega)]
    omega
  have n160' : textN a.ws p ≤ 160 := by unfold textN; omega
  rw [e]
  generalize hn : textN a.ws p = n at *
  refine ⟨_, rfl, by omega, by omega, by omega, by omega, ?_⟩
  rw [Int.toNat_natCast]
  refine newA_intro fun g3 m4 hg3 e4 hb3 hle4 => ⟨n + 1, ?_⟩
  exact (loopT t (s := s) (r := r) (a := a) (p := p) (g := g1) (gr := g3) (m := m2) hw hT hn.symm hg3 (fun M hM => ret_intro (Mem.le_trans hle2 hM) hQ) hb1 (hA.le hle2) n 0 (by omega) m4 hle4 (row0 _ _ _ hb3)).1
def s72 : Spec := fun args m Q => ∃ (g : Nat) (s r : Sl) (a : Ar) (p : Int), args = [.pointer (some ⟨g, 0, none⟩), .int .i64 p] ∧ Ptr m g s r a ∧ ArAt m s r a ∧ a.wf ∧ TextAt a p ∧ Q (.string (textS a.ws p)) m
theorem f72 (t : Tab) : ∀ args m Q, s72 args m Q → FA Tryz.prog (look t) kp72 Tryz.f72 args m Q := by
  rintro args m Q ⟨g, s, r, a, p, rfl, hP, hA, hw, hT, hQ⟩
  rw [e72]
  have hN := hw.n
  have hnn := hA.n
  have p1 := hT.p1
  have p0 := hT.p0
  have y := (gw_in hw.w (p + 1)).1
  have n160 := hT.n
  rw [w64 (x := p + 1) (by omega) (by omega)]
  refine ⟨_, _, _, cell_of hP 0, wd hA.w hnn (by omega) (by omega) fun ad had hd => ⟨_, hd _ (Mem.le_refl _), ?_⟩⟩
  have e : IntKind.i64.wrap (gw a.ws (p + 1)) = (textN a.ws p : Int) := by
    unfold textN
    rw [w64 (by omega) (by omega)]
    omega
  have n160' : textN a.ws p ≤ 160 := by unfold textN; omega
  rw [e]
  generalize hn : textN a.ws p = n at *
  refine ⟨by omega, by omega, by omega, by omega, ?_⟩
  rw [Int.toNat_natCast]
  refine newA_intro fun g3 m4 hg3 e4 hb3 hle4 => ⟨n + 1, ?_⟩
  exact (loopT t (s := s) (r := r) (a := a) (p := p) (g := g) (gr := g3) (m := m) hw hT hn.symm hg3 (fun M hM => ret_intro hM hQ) hP hA n 0 (by omega) m4 hle4 (row0 _ _ _ hb3)).2
end Go.Proofs.YtpdcjocjkbgddaaGreat.Abs
