/- RIPEMD-160 of no bytes: the region's edges and other operations. -/
import Derived.Test.YtejgaeadplnfgaaHaRip1
namespace Go.Proofs.Sx
open Go
theorem rshape : nthC ripI 3 = .region (regId (nthC ripI 3)) ropsA true := by kernel_rfl
def all2B (n : Nat) (f : Nat → Bool) : Bool := (List.range' 0 n).all f
theorem re10 : ([0, 1, 2, 3, 7, 8, 9] : List Nat).all (fun d => edgeB ropsA 10 d) = true := by kernel_rfl
theorem re7 : ([4, 5, 6] : List Nat).all (fun d => edgeB ropsA 7 d) = true := by kernel_rfl
theorem re11 : (List.range' 0 11).all (fun d => edgeB ropsA 11 d) = true := by kernel_rfl
theorem rdown : (List.range' 0 12).all (fun d => downB ropsA d) = true := by kernel_rfl
theorem rsize : ropsA.size = 12 := by kernel_rfl
end Go.Proofs.Sx
