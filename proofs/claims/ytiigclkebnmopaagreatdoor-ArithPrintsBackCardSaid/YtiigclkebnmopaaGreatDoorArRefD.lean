/- Arithmetic expressions: the reference's assign. -/
import Derived.Test.YtiigclkebnmopaaGreatDoorArRefC
import Derived.Test.YtiigclkebnmopaaGreatDoorArRNum
namespace Go.Proofs.YtiigclkebnmopaaGreatDoor
open Go.RowKit Go.Shelf

end Go.Proofs.YtiigclkebnmopaaGreatDoor

namespace Go.Proofs.YtiigclkebnmopaaGreatDoor
open Go.RowKit Go.Shelf

theorem RSX.drewN {w W : World} {b bx : Nat} {T l : List UInt8} (h : RSX w b bx T l W) (n : Nat) : RSX w b bx T l (W.drewN n) := ⟨h.rd.drewN n, h.only.drewN n, h.res, h.ne⟩
end Go.Proofs.YtiigclkebnmopaaGreatDoor

namespace Go.Proofs.YtiigclkebnmopaaGreatDoor
open Go.RowKit Go.Shelf

end Go.Proofs.YtiigclkebnmopaaGreatDoor
