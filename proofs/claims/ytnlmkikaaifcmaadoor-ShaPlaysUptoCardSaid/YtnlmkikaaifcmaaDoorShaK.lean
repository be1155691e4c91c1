/- signetref4: long by its contract, where the length takes no block more. (Printed by gen_shak.py out of ShaJ.) -/
import Derived.Test.YtnlmkikaaifcmaaDoorShaJ
import Derived.Test.YtnlmkikaaifcmaaDoorShaL
set_option linter.unusedVariables false
set_option linter.unusedSimpArgs false
namespace Go.Sg
open Go.RowKit
theorem cut_h {P : Program} (w : World) (T E : TypeId) (hu : P.underlying T = some (.slice E)) (hs : (P.info? E).map (·.size) = some 1) (a : Option Addr) (n cap h : Nat) (h1 : h ≤ cap) (H : Int) (hH : H = h) :
    (Instr.sliceAt T (.slice a n cap) none (some (.int .i64 H)) none).run P w = .ok (.slice (if cap = 0 then a else a.map (·.add 0)) h cap) w := by
  subst hH
  cases hq : P.info? E with
  | none => simp [hq] at hs
  | some i =>
    have hz : i.size = 1 := by simpa [hq] using hs
    simp [Instr.sliceAt, Instr.slice, run_underlying hu, Instr.sliceBounds, run_sliceBound, sizeOf, typeInfo, hq, hz, h1]
theorem byte_or2 (x : BitVec 64) {b : Int} (hb : 0 ≤ b ∧ b ≤ 255) : bits .or .u64 (IntKind.u64.wrap (wi x * 256)) (IntKind.u64.wrap b) = wi (x <<< 8 ||| .ofNat 64 b.toNat) := by
  rw [show IntKind.u64.wrap b = b by rw [IntKind.wrap_u64]; omega]
  exact byte_or x hb
end Go.Sg
namespace Go.Proofs.YtnlmkikaaifcmaaDoor
open Go.RowKit Go.Sg
theorem zero8l : (Tryd.prog.info? 43).map (fun i => (i.zero, i.size)) = some (some (.agg (List.replicate 8 (Value.int .u64 0)).toArray), 8) := by kernel_rfl

end Go.Proofs.YtnlmkikaaifcmaaDoor
