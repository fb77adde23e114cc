/- disk: Rename. -/
import Derived.Test.YtjnhkepgoghogaaGreatDoorDiskG
import Derived.Lib.SlicesS
namespace Go.Proofs.YtjnhkepgoghogaaGreatDoor
open Go.RowKit Go.ChangeMaps Go.MapKept

def DM.rename (D : DM) (f t : ByteArray) : Int × DM :=
  if mayB t = false then (2, D)
  else if getA f D.files = none then (4, D)
  else if f = t then (0, D)
  else match D.raw with
    | none => (6, D)
    | some D' => (0, (D'.del f).put t (D.bytes f))

end Go.Proofs.YtjnhkepgoghogaaGreatDoor
