/- Equations: what the abstract run of each function comes to; each holds by computation. -/
import Derived.Test.YtpdcjocjkbgddaaDoorAbv
import Derived.Test.YtpdcjocjkbgddaaDoorProg
import Derived.KernelRfl
namespace Go.Proofs.YtpdcjocjkbgddaaDoor.Abs
set_option maxRecDepth 100000
set_option linter.unusedVariables false
/-! ### 3: laws.FnExactOpName -/
def kp3 : Option Nat → List Nat
  | _ => []
theorem e3 (call : FuncId → Spec) (a0 : Int) (m : Mem) (Q : Value → Mem → Prop) : FA Tryd.prog call kp3 Tryd.f3 [(.int .i64 a0)] m Q = (call 4 [(.int .i64 a0)] m fun v1 m2 => (∃ s3 : ByteArray, (v1 = (.string s3) ∧ (call 5 [(.int .i64 a0)] m2 fun v4 m5 => (∃ s6 : ByteArray, (v4 = (.string s6) ∧ (if (!(ByteArray.toList s6 == ByteArray.toList s3)) = true then ret Q (.bool false) m5 else ret Q (.bool true) m5))))))) := by kernel_rfl
/-! ### 4: spec.OpName -/
def kp4 : Option Nat → List Nat
  | _ => []
theorem e4 (call : FuncId → Spec) (a0 : Int) (m : Mem) (Q : Value → Mem → Prop) : FA Tryd.prog call kp4 Tryd.f4 [(.int .i64 a0)] m Q = (call 6 [(.int .i64 a0), (.int .i64 (1 : Int)), (.int .i64 (27 : Int))] m fun v1 m2 => (∃ b3 : Bool, (v1 = (.bool b3) ∧ (if (!b3) = true then ret Q (.string ⟨#[]⟩) m2 else (call 7 [] m2 fun v4 m5 => (∃ (ra6 : Option Addr) (rn7 rc8 : Nat), (v4 = (.slice ra6 rn7 rc8) ∧ (optA ra6 fun d9 => (0 ≤ a0 ∧ a0 < ((rn7 : Nat) : Int) ∧ (∃ s10 : ByteArray, (Mem.cell? m5 (d9.add (Int.toNat a0 * 1)) = some (.string s10) ∧ ret Q (.string s10) m5))))))))))) := by kernel_rfl
/-! ### 5: impl.OpName -/
def kp5 : Option Nat → List Nat
  | _ => []
theorem e5 (call : FuncId → Spec) (a0 : Int) (m : Mem) (Q : Value → Mem → Prop) : FA Tryd.prog call kp5 Tryd.f5 [(.int .i64 a0)] m Q = (call 8 [(.int .i64 a0), (.int .i64 (1 : Int)), (.int .i64 (27 : Int))] m fun v1 m2 => (∃ b3 : Bool, (v1 = (.bool b3) ∧ (if (!b3) = true then ret Q (.string ⟨#[]⟩) m2 else (call 9 [(.string ⟨#[110, 105, 108, 32, 98, 111, 111, 108, 32, 105, 110, 116, 32, 116, 101, 120, 116, 32, 108, 111, 99, 97, 108, 32, 98, 111, 120, 101, 100, 32, 117, 112, 32, 115, 101, 116, 32, 115, 101, 116, 98, 111, 120, 32, 115, 101, 116, 117, 112, 32, 98, 111, 120, 32, 102, 110, 32, 116, 97, 98, 32, 105, 110, 100, 101, 120, 32, 112, 117, 116, 32, 111, 112, 32, 116, 117, 114, 110, 32, 106, 117, 109, 112, 32, 106, 117, 109, 112, 110, 111, 116, 32, 97, 110, 100, 32, 111, 114, 32, 109, 97, 114, 107, 32, 99, 97, 108, 108, 32, 114, 101, 116, 117, 114, 110, 32, 112, 111, 112, 32, 100, 117, 112, 32, 108, 105, 98]⟩)] m2 fun v4 m5 => (∃ (ra6 : Option Addr) (rn7 rc8 : Nat), (v4 = (.slice ra6 rn7 rc8) ∧ (optA ra6 fun d9 => (0 ≤ (IntKind.i64.wrap (a0 - (1 : Int))) ∧ (IntKind.i64.wrap (a0 - (1 : Int))) < ((rn7 : Nat) : Int) ∧ (∃ s10 : ByteArray, (Mem.cell? m5 (d9.add (Int.toNat (IntKind.i64.wrap (a0 - (1 : Int))) * 1)) = some (.string s10) ∧ ret Q (.string s10) m5))))))))))) := by kernel_rfl
/-! ### 6: spec.l1In -/
def kp6 : Option Nat → List Nat
  | _ => []
theorem e6 (call : FuncId → Spec) (a0 : Int) (a1 : Int) (a2 : Int) (m : Mem) (Q : Value → Mem → Prop) : FA Tryd.prog call kp6 Tryd.f6 [(.int .i64 a0), (.int .i64 a1), (.int .i64 a2)] m Q = (if (decide (a0 ≥ a1)) = true then ret Q (.bool (decide (a0 ≤ a2))) m else ret Q (.bool false) m) := by kernel_rfl
/-! ### 7: spec.l16Names -/
def kp7 : Option Nat → List Nat
  | _ => []
theorem e7 (call : FuncId → Spec) (m : Mem) (Q : Value → Mem → Prop) : FA Tryd.prog call kp7 Tryd.f7 [] m Q = (newA m (.cells #[(.string ⟨#[]⟩), (.string ⟨#[110, 105, 108]⟩), (.string ⟨#[98, 111, 111, 108]⟩), (.string ⟨#[105, 110, 116]⟩), (.string ⟨#[116, 101, 120, 116]⟩), (.string ⟨#[108, 111, 99, 97, 108]⟩), (.string ⟨#[98, 111, 120, 101, 100]⟩), (.string ⟨#[117, 112]⟩), (.string ⟨#[115, 101, 116]⟩), (.string ⟨#[115, 101, 116, 98, 111, 120]⟩), (.string ⟨#[115, 101, 116, 117, 112]⟩), (.string ⟨#[98, 111, 120]⟩), (.string ⟨#[102, 110]⟩), (.string ⟨#[116, 97, 98]⟩), (.string ⟨#[105, 110, 100, 101, 120]⟩), (.string ⟨#[112, 117, 116]⟩), (.string ⟨#[111, 112]⟩), (.string ⟨#[116, 117, 114, 110]⟩), (.string ⟨#[106, 117, 109, 112]⟩), (.string ⟨#[106, 117, 109, 112, 110, 111, 116]⟩), (.string ⟨#[97, 110, 100]⟩), (.string ⟨#[111, 114]⟩), (.string ⟨#[109, 97, 114, 107]⟩), (.string ⟨#[99, 97, 108, 108]⟩), (.string ⟨#[114, 101, 116, 117, 114, 110]⟩), (.string ⟨#[112, 111, 112]⟩), (.string ⟨#[100, 117, 112]⟩), (.string ⟨#[108, 105, 98]⟩)] 9 (0, 0)) fun g1 m2 => ret Q (.slice (some ⟨g1, 0, none⟩) 28 28) m2) := by kernel_rfl
/-! ### 8: impl.within -/
def kp8 : Option Nat → List Nat
  | _ => []
theorem e8 (call : FuncId → Spec) (a0 : Int) (a1 : Int) (a2 : Int) (m : Mem) (Q : Value → Mem → Prop) : FA Tryd.prog call kp8 Tryd.f8 [(.int .i64 a0), (.int .i64 a1), (.int .i64 a2)] m Q = (if (decide (a0 ≥ a1)) = true then ret Q (.bool (decide (a0 ≤ a2))) m else ret Q (.bool false) m) := by kernel_rfl
end Go.Proofs.YtpdcjocjkbgddaaDoor.Abs
