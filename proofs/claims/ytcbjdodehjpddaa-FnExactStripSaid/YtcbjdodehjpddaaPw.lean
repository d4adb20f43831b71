/- A store behind orders that were drawn quietly: the draws stand outermost. -/
import Derived.Test.YtcbjdodehjpddaaWWords
import Derived.ChangeBook
namespace Go.Proofs.Ytcbjdodehjpddaa.Pw
open Go.Proofs.YtcbjdodehjpddaaW.PrintWords Go.RowKit
theorem setCell_drewN (w : World) (n : Nat) (a : Addr) (v : Value) : (w.drewN n).setCell a v = (w.setCell a v).drewN n := by
  unfold World.setCell
  rfl
theorem alloc_drewN (w : World) (n : Nat) (o : Obj) : (w.drewN n).alloc o = (w.alloc o).drewN n := rfl
theorem cell_same {w : World} {a : Addr} (v : Value) (h : (w.cell? a).isSome = true) : (w.setCell a v).cell? a = some v := by
  obtain ⟨u, hu⟩ := Option.isSome_iff_exists.1 h
  exact World.cell?_setCell_same w a v hu
theorem isSome_setCell (w : World) (a b : Addr) (u : Value) : ((w.setCell b u).cell? a).isSome = (w.cell? a).isSome := by
  by_cases e : a = b
  · subst e
    cases h : w.cell? a with
    | some v => rw [World.cell?_setCell_same w a u h]; rfl
    | none =>
      unfold World.cell? at h ⊢
      unfold World.setCell
      rw [Array.getElem?_modify]
      simp only [if_true]
      cases hb : w.heap[a.block]? with
      | none => rfl
      | some o =>
        rw [hb] at h
        cases o with
        | cells c t f =>
          simp only [Option.map_some]
          simp only [] at h
          split <;> simp_all
        | _ => simp_all
  · rw [World.cell?_setCell_other _ _ _ _ (by first | exact e | exact fun h => e h.symm)]
end Go.Proofs.Ytcbjdodehjpddaa.Pw
