/- string(b). -/
import Derived.Test.YtjnhkepgoghogaaGreatDoorBytes
import Derived.Laws.BytesArg
namespace Go.Proofs.YtjnhkepgoghogaaGreatDoor
open Go.RowKit

def strB (bs : List UInt8) : ByteArray := ⟨bs.toArray⟩
theorem conv_any {w : World} {v : Value} {bs : List UInt8} (h : IsB w v bs) : (convert 33 9 v).run Tryz.prog w = .ok (.string (strB bs)) w := by
  obtain ⟨a, c, rfl, h1, h2, h3⟩ := h
  rcases h3 with rfl | ⟨g, o, rfl, -, hc⟩
  · cases a with
    | none => rw [List.length_nil, run_convert_bytes_nil w 33 5 Tryz.underlying33 Tryz.underlying5 0 c 9 Tryz.underlying9]; rfl
    | some a =>
      rw [List.length_nil, run_convert_bytes_string w 33 9 5 _ 0 c Tryz.underlying33 Tryz.underlying5 Tryz.underlying9, run_bytesToString w a 0 c [] (by simp [loadCells, loadCellsFrom])]
      rfl
  · rw [run_convert_bytes_arg w 33 5 Tryz.underlying33 Tryz.underlying5 g o bs.length c (bs.map fun b => (b.toNat : Int)) (by simp) (fun i hi => by
      have := hc i (.int .u8 (bs[i].toNat : Int)) (by simp [bytesV, hi])
      rw [this]
      simp [List.getD, hi]) 9 Tryz.underlying9]
    congr 2
    unfold strOfNums strB
    congr 2
    rw [List.map_map]
    conv => rhs; rw [← List.map_id bs]
    apply List.map_congr_left
    intro b _
    simp
end Go.Proofs.YtjnhkepgoghogaaGreatDoor
