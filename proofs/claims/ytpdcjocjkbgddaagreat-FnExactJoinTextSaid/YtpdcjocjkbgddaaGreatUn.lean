/- NewCell: what the laws want. -/
import Derived.Test.YtpdcjocjkbgddaaGreatUl
import Derived.Test.YtpdcjocjkbgddaaGreatSu
namespace Go.Proofs.YtpdcjocjkbgddaaGreat.Abs
open Go.ChangeShapes Go.WideShapes Go.RowKit
set_option linter.unusedVariables false
set_option linter.unusedSimpArgs false
set_option maxRecDepth 20000
def toT (a : Ar) : ArT := (a.ws, a.semi, a.to, a.top, a.cyc, a.scan, a.old, a.cop, a.ser, a.rs)
def hT (s r : Sl) (a : Ar) : ArH := (s, a.semi, a.to, a.top, a.cyc, a.scan, a.old, a.cop, a.ser, r)
theorem own_wo {m : Mem} {s r : Sl} {a : Ar} {D : List Nat} (h : Wo m s r a D) : dAr.Own m (hT s r a) (toT a) D := by
  obtain ⟨D1, D2, o1, o2, hD, hn⟩ := h
  exact ⟨D1, D2, hD, o1, [], D2, rfl, ⟨rfl, rfl⟩, [], D2, rfl, ⟨rfl, rfl⟩, [], D2, rfl, ⟨rfl, rfl⟩, [], D2, rfl, ⟨rfl, rfl⟩, [], D2, rfl, ⟨rfl, rfl⟩, [], D2, rfl, ⟨rfl, rfl⟩, [], D2, rfl, ⟨rfl, rfl⟩, [], D2, rfl, ⟨rfl, rfl⟩, o2⟩
theorem Wo.nd {m : Mem} {s r : Sl} {a : Ar} {D : List Nat} (h : Wo m s r a D) : D.Nodup := by
  obtain ⟨D1, D2, o1, o2, hD, hn⟩ := h
  exact hn
/-- What a function over an arena that makes an arena and a number wants, and gives. -/
def makA (q : ArT → Ar × Int) (m : Mem) (h : ArH) (x : ArT) (Q : Value → Mem → Prop) : Prop := atC m h x ∧ okAr x ∧ bgAr x ∧ ∀ (h' : dAr.H) (D : List Nat) (m' : Mem), Mem.le m m' → (∀ b ∈ D, m b = none) → D.Nodup → dAr.Own m' h' (toT (q x).1) D → Q (.tuple #[vAr h', .int .i64 (q x).2]) m'
theorem makA.nc {q : ArT → Ar × Int} {m : Mem} {h : ArH} {x : ArT} {Q : Value → Mem → Prop} (hq : makA q m h x Q) : vAr h = vA h.1 h.2.2.2.2.2.2.2.2.2 (arOf x) ∧ ArAt m h.1 h.2.2.2.2.2.2.2.2.2 (arOf x) ∧ (arOf x).wf ∧ ncK m (q x) Q := by
  obtain ⟨hA, hok, hbg, hQ⟩ := hq
  obtain ⟨a, e⟩ := hA.ar
  exact ⟨e, a, wf_of hok hbg, fun s' r' D M hle hO hD => hQ (hT s' r' (q x).1) D M hle hD hO.nd (own_wo hO)⟩
theorem okAr_of {q : Ar} {x : ArT} (h : okAr x) (k : q.ws.length = (arOf x).ws.length ∧ q.rs.length = (arOf x).rs.length) : okAr (toT q) := by
  refine ⟨?_, ?_⟩
  · show q.ws.length ≤ _
    rw [k.1]; exact h.1
  · show q.rs.length ≤ _
    rw [k.2]; exact h.2
end Go.Proofs.YtpdcjocjkbgddaaGreat.Abs
