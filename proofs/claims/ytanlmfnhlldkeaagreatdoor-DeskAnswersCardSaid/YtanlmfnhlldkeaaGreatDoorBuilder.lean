/-
  Contracts: strings.Builder's copyCheck and WriteByte (walks after those of the kit's shelf, at this dump's numbers).
-/
import Derived.Test.YtanlmfnhlldkeaaGreatDoorShelf
import Derived.Test.YtanlmfnhlldkeaaGreatDoorBaseA
import Derived.Shelf.Strings.BuilderK
namespace Go.Proofs.YtanlmfnhlldkeaaGreatDoor
open Go.RowKit
set_option maxRecDepth 100000

theorem Tryz.sizeBuilder : (Tryz.prog.info? 82).map (·.size) = some 2 := by kernel_rfl
theorem Tryz.liesBuilder : liesAt Tryz.prog Tryz.prog.depth 82 (2 / Tryz.prog.cellsOf 82) 0 82 1 = true := by kernel_rfl
theorem Tryz.infoByte : (Tryz.prog.info? 5).map (fun i => (i.zero, i.size, i.bytes)) = some (some (.int .u8 0), 1, 1) := by kernel_rfl
end Go.Proofs.YtanlmfnhlldkeaaGreatDoor
