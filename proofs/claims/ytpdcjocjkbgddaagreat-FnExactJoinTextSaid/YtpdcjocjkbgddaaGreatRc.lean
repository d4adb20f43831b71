/- Arenas: what an arena is here; the functions that read in one. -/
import Derived.Test.YtpdcjocjkbgddaaGreatRa
namespace Go.Proofs.YtpdcjocjkbgddaaGreat.Abs
open Go.RowKit
set_option linter.unusedVariables false
set_option linter.unusedSimpArgs false
set_option maxRecDepth 20000
structure Ar where
  ws : List U64
  semi : Int
  to : Int
  top : Int
  cyc : Bool
  scan : Int
  old : Int
  cop : Int
  ser : Int
  rs : List Vl
def cA (s r : Sl) (a : Ar) : Array Value := #[vs s, .int .i64 a.semi, .int .i64 a.to, .int .i64 a.top, .bool a.cyc, .int .i64 a.scan, .int .i64 a.old, .int .i64 a.cop, .int .i64 a.ser, vs r]
def vA (s r : Sl) (a : Ar) : Value := .agg (cA s r a)
structure ArAt (m : Mem) (s r : Sl) (a : Ar) : Prop where
  n : a.ws.length = s.n
  w : Rd m s.a a.ws
  k : a.rs.length = r.n
  r : Rd m r.a a.rs
  c : s.n ≤ s.c
theorem ArAt.le {m m' : Mem} {s r : Sl} {a : Ar} (h : ArAt m s r a) (hl : Mem.le m m') : ArAt m' s r a := ⟨h.n, h.w.le hl, h.k, h.r.le hl, h.c⟩
structure Ar.wf (a : Ar) : Prop where
  w : ∀ x ∈ a.ws, inW x.v
  n : a.ws.length ≤ 2 ^ 20
  r : a.rs.length ≤ 2 ^ 20
/-- The word at a place. -/
def gw (ws : List U64) (i : Int) : Int := (ws.getD i.toNat ⟨0⟩).v
theorem gw_in {ws : List U64} (h : ∀ x ∈ ws, inW x.v) (i : Int) : inW (gw ws i) := by
  unfold gw
  rw [List.getD_eq_getElem?_getD]
  cases e : ws[i.toNat]? with
  | none => exact ⟨by decide, by decide⟩
  | some x => exact h x (List.mem_of_getElem? e)
theorem at1 {α : Type} [Enc α] {m : Mem} {a : Option Addr} {l : List α} {i : Int} {n : Nat} {K : Addr → Prop} (z : α) (f : α → Value) (he : ∀ x : α, Enc.e x = [f x]) (h : Rd m a l) (hn : l.length = n) (h0 : 0 ≤ i) (hi : i < n)
    (hK : ∀ ad, a = some ad → (∀ q : Mem, Mem.le m q → q.cell? (ad.add (i.toNat * 1)) = some (f (l.getD i.toNat z))) → K ad) : optA a fun ad => 0 ≤ i ∧ i < (n : Int) ∧ K ad := by
  have hs : Enc.s α = 1 := by rw [← Enc.len z, he]; rfl
  refine idx h hn h0 hi fun ad ha hc => hK ad ha fun q hq => ?_
  have hlt : i.toNat < l.length := by omega
  have := hc 0 (f (l[i.toNat])) (by rw [he]; rfl)
  rw [hs, Nat.add_zero] at this
  rw [List.getD_eq_getElem?_getD, List.getElem?_eq_getElem hlt, Option.getD_some]
  exact cell_le hq this
theorem wd {m : Mem} {a : Option Addr} {ws : List U64} {i : Int} {n : Nat} {K : Addr → Prop} (h : Rd m a ws) (hn : ws.length = n) (h0 : 0 ≤ i) (hi : i < n)
    (hK : ∀ ad, a = some ad → (∀ q : Mem, Mem.le m q → q.cell? (ad.add (i.toNat * 1)) = some (.int .u64 (gw ws i))) → K ad) : optA a fun ad => 0 ≤ i ∧ i < (n : Int) ∧ K ad :=
  at1 (⟨0⟩ : U64) (fun x : U64 => .int .u64 x.v) (fun _ => rfl) h hn h0 hi hK
/-- The value at a place. -/
def valW (ws : List U64) (i : Int) : Vl := (IntKind.i64.wrap (gw ws i), IntKind.i64.wrap (gw ws (i + 1)))
def readV (ws : List U64) (i : Int) : Vl × Bool := if valOkB (valW ws i) then (valW ws i, true) else ((0, 0), false)
def whereW (ws : List U64) (p : Int) : Int := if (fwd (gw ws p)).2 then (fwd (gw ws p)).1 else p
def lookW (ws : List U64) (p : Int) : Hd := (readH (gw ws p)).1
def wordW (ws : List U64) (p i : Int) : Int := IntKind.i64.wrap (gw ws (p + i))
theorem valOk_tag {v : Vl} (h : valOkB v = true) : 0 ≤ v.1 ∧ v.1 ≤ 9 := by
  unfold valOkB isRefB kindT at h
  repeat' split at h
  all_goals first | omega | (simp at h)
theorem wrap_big {x : Int} (h : inW x) (h9 : 0 ≤ IntKind.i64.wrap x ∧ IntKind.i64.wrap x ≤ 9) : x ≤ 9 := by
  obtain ⟨h0, h1⟩ := h
  by_cases c : x ≤ 9223372036854775807
  · rw [w64 (by omega) c] at h9; exact h9.2
  · exfalso
    have e : IntKind.i64.wrap x = x - 18446744073709551616 := by
      unfold IntKind.wrap
      simp [IntKind.bits, IntKind.signed]
      omega
    omega
/-- Values that are read: the reference's. -/
def s94 : Spec := fun args m Q => ∃ (s : Sl) (ws : List U64) (i : Int), args = [vs s, .int .i64 i] ∧ ws.length = s.n ∧ Rd m s.a ws ∧ (∀ x ∈ ws, inW x.v) ∧ ws.length ≤ 2 ^ 20 ∧ 0 ≤ i ∧ i + 1 < ws.length ∧ Q (.tuple #[vVl (readV ws i).1, .bool (readV ws i).2]) m
def s132 : Spec := s94
theorem f94 (t : Tab) (h58 : look t 58 = s58) : ∀ args m Q, s94 args m Q → FA Tryz.prog (look t) kp94 Tryz.f94 args m Q := by
  rintro args m Q ⟨⟨sa, sn, sc⟩, ws, i, rfl, hn, hR, hw, hB, h0, h1, h⟩
  have hn : ws.length = sn := hn
  have hR : Rd m sa ws := hR
  show FA Tryz.prog (look t) kp94 Tryz.f94 [.slice sa sn sc, .int .i64 i] m Q
  rw [e94]
  have hi : IntKind.i64.wrap (i + 1) = i + 1 := w64 (by omega) (by omega)
  have a1 := gw_in hw i
  refine newA_intro fun g1 m2 hg1 e2 hb1 hle2 => wd (hR.le hle2) hn h0 (by omega) fun ad had hd => ⟨_, hd _ (Mem.le_refl _), ?_⟩
  have no : ∀ M : Mem, Mem.le m2 M → M g1 = some (.cells #[.int .i64 0, .int .i64 0] 58 (0, 0)) → valOkB (valW ws i) = false → stoA M ⟨g1, 0, none⟩ [(.int .i64 (0 : Int)), (.int .i64 (0 : Int))] fun m6 => (∃ y7 : Int, (Mem.cell? m6 ⟨g1, 0, none⟩ = some (.int .i64 y7) ∧ (∃ y9 : Int, (Mem.cell? m6 ⟨g1, 1, none⟩ = some (.int .i64 y9) ∧ (ret Q (.tuple #[(.agg #[(.int .i64 y7), (.int .i64 y9)]), (.bool false)]) m6))))) := by
    intro M hM hb hv
    refine sto (c := #[.int .i64 0, .int .i64 0]) (t := 58) hb rfl (by simp) fun m6 e6 h6 hne6 => ?_
    have h6 : m6 g1 = some (.cells #[.int .i64 0, .int .i64 0] 58 (0, 0)) := h6
    refine ⟨_, cell_of h6 0, _, cell_of h6 1, ret_intro (le_other (Mem.le_trans hle2 hM) hg1 hne6) ?_⟩
    unfold readV at h
    rw [hv] at h
    exact h
  by_cases c : gw ws i > 15
  · rw [if_pos (by simpa using c)]
    refine no m2 (Mem.le_refl _) hb1 ?_
    rw [Bool.eq_false_iff]
    intro hv
    have := wrap_big a1 (valOk_tag hv)
    omega
  · rw [if_neg (by simpa using c)]
    refine ⟨Mem.le m2, Mem.le_refl _, wd (hR.le hle2) hn h0 (by omega) fun ad2 had2 hd2 => ⟨_, hd2, ?_⟩⟩
    rw [hi]
    refine wd (hR.le hle2) hn (by omega) (by omega) fun ad3 had3 hd3 => ⟨_, hd3, newA_intro fun g18 m19 hg18 e19 hb18 hle19 => ⟨hle19, ?_⟩⟩
    refine sto (c := #[.int .i64 0, .int .i64 0]) (t := 58) hb18 rfl (by simp) fun m20 e20 h20 hne20 => ?_
    have h20 : m20 g18 = some (.cells #[.int .i64 (valW ws i).1, .int .i64 (valW ws i).2] 58 (0, 0)) := h20
    refine ⟨_, cell_of h20 0, _, cell_of h20 1, via h58 ⟨valW ws i, rfl, _, rfl, ?_⟩⟩
    have n1 : g1 ≠ g18 := ne_of_none hg18 hb1
    have b1 : m20 g1 = some (.cells #[.int .i64 0, .int .i64 0] 58 (0, 0)) := by rw [hne20 _ n1]; exact hle19 _ _ hb1
    have l20 : Mem.le m2 m20 := le_other hle19 hg18 hne20
    cases hv : valOkB (valW ws i) with
    | false =>
      rw [if_pos (by decide)]
      exact no m20 l20 b1 hv
    | true =>
      rw [if_neg (by decide)]
      refine ⟨_, cell_of h20 0, _, cell_of h20 1, sto (c := #[.int .i64 0, .int .i64 0]) (t := 58) b1 rfl (by simp) fun m21 e21 h21 hne21 => ?_⟩
      have h21 : m21 g1 = some (.cells #[.int .i64 (valW ws i).1, .int .i64 (valW ws i).2] 58 (0, 0)) := h21
      refine ⟨_, cell_of h21 0, _, cell_of h21 1, ret_intro (le_other (Mem.le_trans hle2 l20) hg1 hne21) ?_⟩
      unfold readV at h
      rw [hv] at h
      exact h
theorem f132 (t : Tab) (h108 : look t 108 = s108) (h47 : look t 47 = s47) : ∀ args m Q, s132 args m Q → FA Tryz.prog (look t) kp132 Tryz.f132 args m Q := by
  rintro args m Q ⟨⟨sa, sn, sc⟩, ws, i, rfl, hn, hR, hw, hB, h0, h1, h⟩
  have hn : ws.length = sn := hn
  have hR : Rd m sa ws := hR
  show FA Tryz.prog (look t) kp132 Tryz.f132 [.slice sa sn sc, .int .i64 i] m Q
  rw [e132]
  have hi : IntKind.i64.wrap (i + 1) = i + 1 := w64 (by omega) (by omega)
  have a1 := gw_in hw i
  refine newA_intro fun g1 m2 hg1 e2 hb1 hle2 => via h47 ⟨_, _, _, rfl, _, rfl, ?_⟩
  rw [w64 (x := (sn : Int) - 2) (by omega) (by omega), if_neg (by simp; omega)]
  refine wd (hR.le hle2) hn h0 (by omega) fun ad had hd => ⟨_, hd _ (Mem.le_refl _), ?_⟩
  have no : ∀ M : Mem, Mem.le m2 M → M g1 = some (.cells #[.int .i64 0, .int .i64 0] 58 (0, 0)) → valOkB (valW ws i) = false → stoA M ⟨g1, 0, none⟩ [(.int .i64 (0 : Int)), (.int .i64 (0 : Int))] fun m6 => (∃ y7 : Int, (Mem.cell? m6 ⟨g1, 0, none⟩ = some (.int .i64 y7) ∧ (∃ y9 : Int, (Mem.cell? m6 ⟨g1, 1, none⟩ = some (.int .i64 y9) ∧ (ret Q (.tuple #[(.agg #[(.int .i64 y7), (.int .i64 y9)]), (.bool false)]) m6))))) := by
    intro M hM hb hv
    refine sto (c := #[.int .i64 0, .int .i64 0]) (t := 58) hb rfl (by simp) fun m6 e6 h6 hne6 => ?_
    have h6 : m6 g1 = some (.cells #[.int .i64 0, .int .i64 0] 58 (0, 0)) := h6
    refine ⟨_, cell_of h6 0, _, cell_of h6 1, ret_intro (le_other (Mem.le_trans hle2 hM) hg1 hne6) ?_⟩
    unfold s132 at *
    unfold readV at h
    rw [hv] at h
    exact h
  by_cases c : gw ws i > 9
  · rw [if_pos (by simpa using c)]
    refine no m2 (Mem.le_refl _) hb1 ?_
    rw [Bool.eq_false_iff]
    intro hv
    have := wrap_big a1 (valOk_tag hv)
    omega
  · rw [if_neg (by simpa using c)]
    refine ⟨Mem.le m2, Mem.le_refl _, wd (hR.le hle2) hn h0 (by omega) fun ad2 had2 hd2 => ⟨_, hd2, ?_⟩⟩
    rw [hi]
    refine wd (hR.le hle2) hn (by omega) (by omega) fun ad3 had3 hd3 => ⟨_, hd3, newA_intro fun g18 m19 hg18 e19 hb18 hle19 => ⟨hle19, ?_⟩⟩
    refine sto (c := #[.int .i64 0, .int .i64 0]) (t := 58) hb18 rfl (by simp) fun m20 e20 h20 hne20 => ?_
    have h20 : m20 g18 = some (.cells #[.int .i64 (valW ws i).1, .int .i64 (valW ws i).2] 58 (0, 0)) := h20
    refine ⟨_, cell_of h20 0, _, cell_of h20 1, via h108 ⟨valW ws i, rfl, _, rfl, ?_⟩⟩
    have n1 : g1 ≠ g18 := ne_of_none hg18 hb1
    have b1 : m20 g1 = some (.cells #[.int .i64 0, .int .i64 0] 58 (0, 0)) := by rw [hne20 _ n1]; exact hle19 _ _ hb1
    have l20 : Mem.le m2 m20 := le_other hle19 hg18 hne20
    cases hv : valOkB (valW ws i) with
    | false =>
      rw [if_pos (by decide)]
      exact no m20 l20 b1 hv
    | true =>
      rw [if_neg (by decide)]
      refine ⟨_, cell_of h20 0, _, cell_of h20 1, sto (c := #[.int .i64 0, .int .i64 0]) (t := 58) b1 rfl (by simp) fun m21 e21 h21 hne21 => ?_⟩
      have h21 : m21 g1 = some (.cells #[.int .i64 (valW ws i).1, .int .i64 (valW ws i).2] 58 (0, 0)) := h21
      refine ⟨_, cell_of h21 0, _, cell_of h21 1, ret_intro (le_other (Mem.le_trans hle2 l20) hg1 hne21) ?_⟩
      unfold readV at h
      rw [hv] at h
      exact h
end Go.Proofs.YtpdcjocjkbgddaaGreat.Abs
