/- PutText: what the laws want. -/
import Derived.Test.YtpdcjocjkbgddaaGreatVa
import Derived.Test.YtpdcjocjkbgddaaGreatUn
namespace Go.Proofs.YtpdcjocjkbgddaaGreat.Abs
open Go.ChangeShapes Go.WideShapes Go.RowKit
set_option linter.unusedVariables false
set_option linter.unusedSimpArgs false
set_option maxRecDepth 20000
noncomputable def ptM (x : ArT) (s : ByteArray) (i : Int) : ArT := toT (ptA (arOf x) s i).1
noncomputable def ptC (x : ArT) (s : ByteArray) (i : Int) : Int := (ptA (arOf x) s i).2
theorem ptA_len {a : Ar} {s : ByteArray} {i : Int} (hw : a.wf) : (ptA a s i).1.ws.length = a.ws.length ∧ (ptA a s i).1.rs.length = a.rs.length := by
  unfold ptA
  split
  · rename_i hk
    obtain ⟨k1, k2, k3, k4⟩ := ask_ok (okC_of hw hk.1) (pt_size hk.2.2)
    unfold ptR
    split
    · refine ⟨?_, ?_⟩
      · show (txW _ _ (setW _ _ _) _).length = _
        rw [txW_len, setW_len]; exact k1
      · show (List.set _ _ _).length = _
        rw [List.length_set]; exact k2
    · exact ⟨k1, k2⟩
  · exact ⟨rfl, rfl⟩
theorem okAr_of {q : Ar} {x : ArT} (h : okAr x) (k : q.ws.length = (arOf x).ws.length ∧ q.rs.length = (arOf x).rs.length) : okAr (toT q) := by
  refine ⟨?_, ?_⟩
  · show q.ws.length ≤ _
    rw [k.1]; exact h.1
  · show q.rs.length ≤ _
    rw [k.2]; exact h.2
theorem ptM_ok {x : ArT} {s : ByteArray} {i : Int} (h : okAr x) (hb : ∀ w ∈ x.1, inW w.v) : okAr (ptM x s i) := okAr_of h (ptA_len ⟨hb, h.1, h.2⟩)
def s8' : Spec := fun args m Q => ∃ (h : dAr.H) (x : ArT) (s : ByteArray) (i : Int), args = [vAr h, .string s, .int .i64 i] ∧ atC m h x ∧ okAr x ∧ bgAr x ∧ ∀ (h' : dAr.H) (D : List Nat) (m' : Mem), Mem.le m m' → (∀ b ∈ D, m b = none) → D.Nodup → dAr.Own m' h' (ptM x s i) D → Q (.tuple #[vAr h', .int .i64 (ptC x s i)]) m'
theorem to8 {args : List Value} {m : Mem} {Q : Value → Mem → Prop} (h : s8' args m Q) : s8 args m Q := by
  obtain ⟨h, x, s, i, rfl, hq⟩ := h
  obtain ⟨e, a, w, k⟩ := makA.nc (q := fun x => ptA (arOf x) s i) hq
  exact ⟨_, _, arOf x, s, i, by rw [e], a, w, k⟩
def s10' : Spec := s8'
theorem to10 {args : List Value} {m : Mem} {Q : Value → Mem → Prop} (h : s10' args m Q) : s10 args m Q := to8 h
end Go.Proofs.YtpdcjocjkbgddaaGreat.Abs
