/- Arenas: what the laws want of images. -/
import Derived.Test.YtjdcndicaeodbaaSh
import Derived.Test.YtjdcndicaeodbaaSc
namespace Go.Proofs.Ytjdcndicaeodbaa.Abs
open Go.ChangeShapes Go.WideShapes Go.RowKit
set_option linter.unusedVariables false
set_option linter.unusedSimpArgs false
set_option maxRecDepth 20000
noncomputable def imageM (x : ArT) : List U8 := imgA (arOf x)
theorem imageM_ok {x : ArT} (h : okAr x) : okR (imageM x) := by
  unfold imageM imgA okR
  split
  case isFalse => exact Nat.zero_le _
  case isTrue hk =>
    obtain ⟨mk, hk⟩ := hk
    have hN := hk.N
    have hh := halves hN
    have hf := hN.f
    unfold freeP at hf
    have hr := hN.r
    have h1 := hN.sm.s1
    have hl := hN.sm.l
    unfold imB imW imU imU1 imU0
    rw [flatB_len, List.length_append, List.length_append, List.length_append, List.length_append, hdU_len, rtU_len, seg_len (by omega) (by omega) (by omega)]
    split
    case isTrue hc =>
      rw [if_pos hc] at hf
      rw [seg_len (by omega) (by omega) (by omega)]
      simp only [List.length_cons, List.length_nil]
      omega
    case isFalse =>
      simp only [List.length_cons, List.length_nil]
      omega
def s16' : Spec := fun args m Q => ∃ (h : dAr.H) (x : ArT), args = [vAr h] ∧ atC m h x ∧ okAr x ∧ bgAr x ∧ ∀ (h' : dBs.H) (D : List Nat) (m' : Mem), Mem.le m m' → (∀ b ∈ D, m b = none) → D.Nodup → dBs.Own m' h' (imageM x) D → Q (.tuple #[vs h', .bool (pB (okP (arOf x)))]) m'
theorem to16 {args : List Value} {m : Mem} {Q : Value → Mem → Prop} (h : s16' args m Q) : s16 args m Q := by
  obtain ⟨h, x, rfl, hA, hok, hbg, hQ⟩ := h
  obtain ⟨a, e⟩ := hA.ar
  exact ⟨_, _, arOf x, by rw [e], a, wf_of hok hbg, fun s' M D hle hO hD => hQ s' D M hle hD (own_nd hO) hO⟩
def s17' : Spec := s16'
theorem to17 {args : List Value} {m : Mem} {Q : Value → Mem → Prop} (h : s17' args m Q) : s17 args m Q := to16 h
end Go.Proofs.Ytjdcndicaeodbaa.Abs
