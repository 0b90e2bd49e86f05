/-
  Wire: what the laws' cards share.
-/
import Derived.Test.YtnpmfpcppkdniaaDoorW14
import Derived.Test.YtnpmfpcppkdniaaDoorEv24
namespace Go.Proofs.YtnpmfpcppkdniaaDoor
open Go

/-- A WORLD FOR THE WITNESS: the table holds what its initialiser lays. -/
noncomputable def laidWorld (os : Os) : World :=
  { World.holding Tryd.prog os ⟨#[], #[], []⟩ with heap := (World.holding Tryd.prog os ⟨#[], #[], []⟩).heap.modify 0 fun
      | .cells _ t frozen => .cells #[.int .u32 0, .int .u32 274646895, .int .u32 549293790, .int .u32 820201905, .int .u32 1098587580, .int .u32 1361435347, .int .u32 1640403810, .int .u32 1905808397, .int .u32 2197175160, .int .u32 2460548119, .int .u32 2722870694, .int .u32 2987750089, .int .u32 3280807620, .int .u32 3553878443, .int .u32 3811616794, .int .u32 4084100981] t frozen
      | o => o }
end Go.Proofs.YtnpmfpcppkdniaaDoor
