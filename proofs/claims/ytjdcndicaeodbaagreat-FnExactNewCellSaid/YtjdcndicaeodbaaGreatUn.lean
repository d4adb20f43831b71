/- NewCell: what the laws want. -/
import Derived.Test.YtjdcndicaeodbaaGreatUl
import Derived.Test.YtjdcndicaeodbaaGreatSu
namespace Go.Proofs.YtjdcndicaeodbaaGreat.Abs
open Go.ChangeShapes Go.WideShapes Go.RowKit
set_option linter.unusedVariables false
set_option linter.unusedSimpArgs false
set_option maxRecDepth 20000
def toT (a : Ar) : ArT := (a.ws, a.semi, a.to, a.top, a.cyc, a.scan, a.old, a.cop, a.ser, a.rs)
def hT (s r : Sl) (a : Ar) : ArH := (s, a.semi, a.to, a.top, a.cyc, a.scan, a.old, a.cop, a.ser, r)
theorem own_wo {m : Mem} {s r : Sl} {a : Ar} {D : List Nat} (h : Wo m s r a D) : dAr.Own m (hT s r a) (toT a) D := by
  obtain ⟨D1, D2, o1, o2, hD, hn⟩ := h
  exact ⟨D1, D2, hD, o1, [], D2, rfl, ⟨rfl, rfl⟩, [], D2, rfl, ⟨rfl, rfl⟩, [], D2, rfl, ⟨rfl, rfl⟩, [], D2, rfl, ⟨rfl, rfl⟩, [], D2, rfl, ⟨rfl, rfl⟩, [], D2, rfl, ⟨rfl, rfl⟩, [], D2, rfl, ⟨rfl, rfl⟩, [], D2, rfl, ⟨rfl, rfl⟩, o2⟩
theorem Wo.nd {m : Mem} {s r : Sl} {a : Ar} {D : List Nat} (h : Wo m s r a D) : D.Nodup := by
  obtain ⟨D1, D2, o1, o2, hD, hn⟩ := h
  exact hn
/-- What a function over an arena that makes an arena and a number wants, and gives. -/
def makA (q : ArT → Ar × Int) (m : Mem) (h : ArH) (x : ArT) (Q : Value → Mem → Prop) : Prop := atC m h x ∧ okAr x ∧ bgAr x ∧ ∀ (h' : dAr.H) (D : List Nat) (m' : Mem), Mem.le m m' → (∀ b ∈ D, m b = none) → D.Nodup → dAr.Own m' h' (toT (q x).1) D → Q (.tuple #[vAr h', .int .i64 (q x).2]) m'
theorem makA.nc {q : ArT → Ar × Int} {m : Mem} {h : ArH} {x : ArT} {Q : Value → Mem → Prop} (hq : makA q m h x Q) : vAr h = vA h.1 h.2.2.2.2.2.2.2.2.2 (arOf x) ∧ ArAt m h.1 h.2.2.2.2.2.2.2.2.2 (arOf x) ∧ (arOf x).wf ∧ ncK m (q x) Q := by
  obtain ⟨hA, hok, hbg, hQ⟩ := hq
  obtain ⟨a, e⟩ := hA.ar
  exact ⟨e, a, wf_of hok hbg, fun s' r' D M hle hO hD => hQ (hT s' r' (q x).1) D M hle hD hO.nd (own_wo hO)⟩
noncomputable def ncM (x : ArT) (f i : Int) : ArT := toT (ncA (arOf x) f i).1
noncomputable def ncC (x : ArT) (f i : Int) : Int := (ncA (arOf x) f i).2
theorem ncM_ok {x : ArT} {f i : Int} (h : okAr x) (hb : ∀ w ∈ x.1, inW w.v) : okAr (ncM x f i) := by
  have hw : (arOf x).wf := ⟨hb, h.1, h.2⟩
  have key : (ncA (arOf x) f i).1.ws.length = (arOf x).ws.length ∧ (ncA (arOf x) f i).1.rs.length = (arOf x).rs.length := by
    unfold ncA
    split
    · rename_i hk
      obtain ⟨k1, k2, k3, k4⟩ := ask_ok (k := 5) (n := 2) (okC_of hw hk.1) (by decide)
      unfold ncR
      split
      · refine ⟨?_, ?_⟩
        · show (setW (setW _ _ _) _ _).length = _
          rw [setW_len, setW_len]; exact k1
        · show (List.set _ _ _).length = _
          rw [List.length_set]; exact k2
      · exact ⟨k1, k2⟩
    · exact ⟨rfl, rfl⟩
  refine ⟨?_, ?_⟩
  · show (ncA (arOf x) f i).1.ws.length ≤ _
    rw [key.1]; exact h.1
  · show (ncA (arOf x) f i).1.rs.length ≤ _
    rw [key.2]; exact h.2
def s48' : Spec := fun args m Q => ∃ (h : dAr.H) (x : ArT) (f i : Int), args = [vAr h, .int .i64 f, .int .i64 i] ∧ atC m h x ∧ okAr x ∧ bgAr x ∧ ∀ (h' : dAr.H) (D : List Nat) (m' : Mem), Mem.le m m' → (∀ b ∈ D, m b = none) → D.Nodup → dAr.Own m' h' (ncM x f i) D → Q (.tuple #[vAr h', .int .i64 (ncC x f i)]) m'
theorem to48 {args : List Value} {m : Mem} {Q : Value → Mem → Prop} (h : s48' args m Q) : s48 args m Q := by
  obtain ⟨h, x, f, i, rfl, hq⟩ := h
  obtain ⟨e, a, w, k⟩ := makA.nc (q := fun x => ncA (arOf x) f i) hq
  exact ⟨_, _, arOf x, f, i, by rw [e], a, w, k⟩
def s49' : Spec := s48'
theorem to49 {args : List Value} {m : Mem} {Q : Value → Mem → Prop} (h : s49' args m Q) : s49 args m Q := to48 h
end Go.Proofs.YtjdcndicaeodbaaGreat.Abs
