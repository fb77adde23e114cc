/- string(b). -/
import Derived.Laws.BytesArg
import Derived.Test.YtemilbemdlpkaaaGreatDoorPab
import Derived.Laws.Bits64b
import Derived.Test.YtemilbemdlpkaaaGreatDoorPae
import Derived.Shelf.SlIter.Nil
import Derived.Shelf.SortM.Plain
import Derived.Shelf.SortM.SortNone
import Derived.Ground.GgzProg
import Derived.Ground.SlgmProg
import Derived.Shelf.LaysM
import Derived.Shelf.Strconv.Itoa3
import Derived.Ground.NamesProg
import Derived.Test.YtemilbemdlpkaaaGreatDoorProg
import Derived.Lib.ItoaLen
import Derived.Deep.RegionWith
import Derived.Test.YtemilbemdlpkaaaGreatDoorPad
namespace Go.Proofs.YtemilbemdlpkaaaGreatDoor
open Go.RowKit

def strB (bs : List UInt8) : ByteArray := ⟨bs.toArray⟩
theorem conv_any {w : World} {v : Value} {bs : List UInt8} (h : IsB w v bs) : (convert 25 9 v).run Tryz.prog w = .ok (.string (strB bs)) w := by
  obtain ⟨a, c, rfl, h1, h2, h3⟩ := h
  rcases h3 with rfl | ⟨g, o, rfl, -, hc⟩
  · cases a with
    | none => rw [List.length_nil, run_convert_bytes_nil w 25 5 Tryz.underlying25 Tryz.underlying5 0 c 9 Tryz.underlying9]; rfl
    | some a =>
      rw [List.length_nil, run_convert_bytes_string w 25 9 5 _ 0 c Tryz.underlying25 Tryz.underlying5 Tryz.underlying9, run_bytesToString w a 0 c [] (by simp [loadCells, loadCellsFrom])]
      rfl
  · rw [run_convert_bytes_arg w 25 5 Tryz.underlying25 Tryz.underlying5 g o bs.length c (bs.map fun b => (b.toNat : Int)) (by simp) (fun i hi => by
      have := hc i (.int .u8 (bs[i].toNat : Int)) (by simp [bytesV, hi])
      rw [this]
      simp [List.getD, hi]) 9 Tryz.underlying9]
    congr 2
    unfold strOfNums strB
    congr 2
    rw [List.map_map]
    conv => rhs; rw [← List.map_id bs]
    apply List.map_congr_left
    intro b _
    simp
end Go.Proofs.YtemilbemdlpkaaaGreatDoor

/- octet.Hex. -/
namespace Go.Proofs.YtemilbemdlpkaaaGreatDoor
open Go.RowKit Go.ChangeMaps Go.MapKept

def hexD (d : Nat) : UInt8 := if d < 10 then UInt8.ofNat (48 + d) else UInt8.ofNat (87 + d)
def hexL (x : Nat) : List UInt8 := (List.range 16).map fun i => hexD (x / 16 ^ (15 - i) % 16)
theorem hexL_length (x : Nat) : (hexL x).length = 16 := by simp [hexL]

theorem and_15 (y : Nat) (hy : y < 18446744073709551616) : bits .and .u64 (y : Int) 15 = ((y % 16 : Nat) : Int) := by
  have h := bits_and_u64_nat y 15 hy (by omega)
  rw [show (15 : Int) = ((15 : Nat) : Int) from rfl, h]
  congr 1
  exact Nat.and_two_pow_sub_one_eq_mod y 4
theorem hex_digit (d : Nat) (hd : d < 16) (h : d < ({ data := #[48, 49, 50, 51, 52, 53, 54, 55, 56, 57, 97, 98, 99, 100, 101, 102] } : ByteArray).size) :
    ({ data := #[48, 49, 50, 51, 52, 53, 54, 55, 56, 57, 97, 98, 99, 100, 101, 102] } : ByteArray)[d] = hexD d := by
  have : ∀ d : Nat, d < 16 → ∀ h : d < ({ data := #[48, 49, 50, 51, 52, 53, 54, 55, 56, 57, 97, 98, 99, 100, 101, 102] } : ByteArray).size, ({ data := #[48, 49, 50, 51, 52, 53, 54, 55, 56, 57, 97, 98, 99, 100, 101, 102] } : ByteArray)[d] = hexD d := by decide +kernel
  exact this d hd h

set_option maxRecDepth 100000 in
set_option maxHeartbeats 1000000 in
theorem hex_any (w : World) (x : Nat) (hx : x < 18446744073709551616) :
    Calls Tryz.prog 40 #[.int .u64 x] w fun e w' => e = .returned (.string (strB (hexL x))) ∧ Kept (fun _ => False) w w' := by
  go_enter Tryz.func40, Tryz.ntmps40
  go_wp2_with fail
  go_loopg [0, 4] 16 (fun g y i wr => ∃ k : Nat, k + g = 16 ∧ y = .int .u64 ((x / 16 ^ k : Nat) : Int) ∧ i = .int .i64 (15 - (k : Int)) ∧
    Hid ((∀ j, j < 16 → (wr.cell? ⟨w.heap.size, j, none⟩).isSome = true) ∧ (∀ j, j < 16 → 16 - k ≤ j → wr.cell? ⟨w.heap.size, j, none⟩ = some (.int .u8 ((hexD (x / 16 ^ (15 - j) % 16)).toNat : Int))) ∧ (∀ j, wr.frozen? ⟨w.heap.size, j, none⟩ = false) ∧ Kept (fun _ => False) w wr ∧ w.heap.size < wr.heap.size))
  case atStart =>
    refine ⟨0, by omega, by simp, rfl, Lib.hid ⟨fun j hj => ?_, fun j h1 h2 => absurd h2 (by omega), fun j => ?_, (Kept.refl _ _).alloc _, by simp⟩⟩
    · rw [World.cell?_alloc_new]; simp; omega
    · simp
  case round =>
    obtain ⟨k, hk, rfl, rfl, HR⟩ := hrel
    obtain ⟨y, hy⟩ : ∃ y : Nat, x / 16 ^ k = y := ⟨_, rfl⟩
    rw [hy]
    have hy64 : y < 18446744073709551616 := by rw [← hy]; exact Nat.lt_of_le_of_lt (Nat.div_le_self _ _) hx
    have HY := Lib.hid hy
    clear hy
    by_cases hlt : k < 16
    · obtain ⟨n, hn⟩ : ∃ n : Nat, n = 15 - k := ⟨_, rfl⟩
      have hi : (15 - (k : Int)) = (n : Int) := by omega
      rw [hi]
      have hn16 : n < 16 := by omega
      obtain ⟨d, hd⟩ : ∃ d : Nat, y % 16 = d := ⟨_, rfl⟩
      have hb : bits .and .u64 (y : Int) 15 = (d : Int) := by rw [← hd]; exact and_15 y hy64
      have hd16 : d < 16 := by omega
      have hdig := fun h => hex_digit d hd16 h
      have HN := Lib.hid hn
      have HD := Lib.hid hd
      obtain ⟨u, hcs⟩ := Option.isSome_iff_exists.1 (HR.out.1 n hn16)
      have hfz := HR.out.2.2.1 n
      clear hn hi hd
      go_wp2
      go_roundg (gk - 1)
      case measure => omega
      case rel =>
        obtain ⟨h1, h2, h3, h4, h5⟩ := HR.out
        have hn : n = 15 - k := HN.out
        refine ⟨k + 1, by omega, ?_, by congr 1; omega, Lib.hid ⟨fun j hj => ?_, fun j hj hjk => ?_, fun j => ?_, ?_, by simpa using h5⟩⟩
        · rw [Nat.pow_succ, ← Nat.div_div_eq_div_mul, HY.out]; norm_cast
        · obtain ⟨v, hv⟩ := Option.isSome_iff_exists.1 (h1 j hj)
          obtain ⟨v', hv'⟩ := cell?_setCell_some (p := ⟨w.heap.size, n, none⟩) (x := .int .u8 ((hexD d).toNat : Int)) hv
          rw [hv']; rfl
        · by_cases hjn : j = n
          · subst hjn
            rw [World.cell?_setCell_same' _ _ _ (h1 j hj)]
            rw [show 15 - j = k by omega, HY.out, HD.out]
          · have e := World.cell?_setCell_other wr ⟨w.heap.size, n, none⟩ ⟨w.heap.size, j, none⟩ (.int .u8 ((hexD d).toNat : Int)) (by intro e; injection e with _ e _; exact hjn e.symm)
            exact e.trans (h2 j hj (by omega))
        · rw [World.frozen?_setCell]; exact h3 j
        · exact h4.setCell (fun h => absurd h (by simp)) _
    · obtain rfl : k = 16 := by omega
      obtain ⟨h1, h2, h3, h4, h5⟩ := HR.out
      have hB : IsB wr (.slice (some ⟨w.heap.size, 0, none⟩) (hexL x).length 16) (hexL x) := by
        refine ⟨_, _, rfl, by rw [hexL_length]; omega, by simp [maxLen], .inr ⟨_, 0, rfl, h5, fun i v hv => ?_⟩⟩
        obtain ⟨hi, rfl⟩ := List.getElem?_eq_some_iff.1 hv
        rw [bytesV_length, hexL_length] at hi
        rw [Nat.zero_add, h2 i hi (by omega)]
        simp [bytesV, hexL]
      have hconv := conv_any hB
      rw [hexL_length] at hconv
      have HK := Lib.hid h4
      clear h1 h2 h3 h4 hB
      go_wp2
      go_ret
      exact ⟨rfl, HK.out⟩
end Go.Proofs.YtemilbemdlpkaaaGreatDoor

/- contracts of the library for this translation (laid by the kit's program) -/
namespace Go.Proofs
open Go.Shelf
def Tryz.keysF_ren : Go.Shelf.Ren := ⟨fun | 7 => 66 | 10 => 110 | n => n, fun | 23 => 104 | 26 => 9 | 3 => 25 | 28 => 136 | 0 => 0 | 27 => 135 | 33 => 111 | 4 => 4 | n => n, fun | n => n⟩
theorem Tryz.keysF : Go.Proofs.SlLaysZ.n7 Tryz.prog Tryz.keysF_ren := {
  mixed := by kernel_rfl
  f7 := ⟨Tryz.f66.name, by decide, Tryz.func66.trans (congrArg some (by kernel_rfl))⟩
  f10 := ⟨Tryz.f110.name, by decide, Tryz.func110.trans (congrArg some (by kernel_rfl))⟩
  t0 := Tryz.underlying0
  a0 := Tryz.isAgg0
  z0 := Tryz.sizeOf0
  v0 := Tryz.zeroValue0
  t4 := Tryz.underlying4
  a4 := Tryz.isAgg4
  z4 := Tryz.sizeOf4
  v4 := Tryz.zeroValue4
  t23 := Tryz.underlying104
  a23 := Tryz.isAgg104
  z23 := Tryz.sizeOf104
  v23 := Tryz.zeroValue104
  t26 := Tryz.underlying9
  a26 := Tryz.isAgg9
  z26 := Tryz.sizeOf9
  v26 := Tryz.zeroValue9
  t27 := Tryz.underlying135
  a27 := Tryz.isAgg135
  z27 := Tryz.sizeOf135
  v27 := Tryz.zeroValue135
  t28 := Tryz.underlying136
  a28 := Tryz.isAgg136
  z28 := Tryz.sizeOf136
  v28 := Tryz.zeroValue136
  t33 := Tryz.underlying111
  a33 := Tryz.isAgg111
  z33 := Tryz.sizeOf111
  v33 := Tryz.zeroValue111 }
def Tryz.sortedF_ren : Go.Shelf.Ren := ⟨fun | 6 => 65 | 8 => 108 | 9 => 109 | 11 => 136 | 13 => 112 | 12 => 137 | 23 => 147 | 24 => 148 | 14 => 169 | 15 => 170 | 16 => 171 | 17 => 172 | 18 => 173 | 19 => 174 | 20 => 175 | 21 => 176 | 22 => 177 | 25 => 195 | 26 => 179 | 27 => 180 | 28 => 196 | 29 => 197 | 30 => 198 | 31 => 207 | n => n, fun | 26 => 9 | 28 => 136 | 24 => 43 | 0 => 0 | 3 => 3 | 37 => 37 | 48 => 208 | 50 => 34 | 4 => 4 | 40 => 200 | 39 => 199 | 45 => 205 | 5 => 5 | 9 => 9 | 51 => 229 | 55 => 232 | 57 => 245 | 58 => 246 | 33 => 111 | n => n, fun | n => n⟩
theorem Tryz.sortedF : Go.Proofs.SlLaysZ.n6 Tryz.prog Tryz.sortedF_ren := {
  mixed := by kernel_rfl
  f6 := ⟨Tryz.f65.name, by decide, Tryz.func65.trans (congrArg some (by kernel_rfl))⟩
  f8 := ⟨Tryz.f108.name, by decide, Tryz.func108.trans (congrArg some (by kernel_rfl))⟩
  f11 := ⟨Tryz.f136.name, by decide, Tryz.func136.trans (congrArg some (by kernel_rfl))⟩
  t0 := Tryz.underlying0
  a0 := Tryz.isAgg0
  z0 := Tryz.sizeOf0
  v0 := Tryz.zeroValue0
  t24 := Tryz.underlying43
  a24 := Tryz.isAgg43
  z24 := Tryz.sizeOf43
  v24 := Tryz.zeroValue43
  t26 := Tryz.underlying9
  a26 := Tryz.isAgg9
  z26 := Tryz.sizeOf9
  v26 := Tryz.zeroValue9
  t28 := Tryz.underlying136
  a28 := Tryz.isAgg136
  z28 := Tryz.sizeOf136
  v28 := Tryz.zeroValue136
  i26 := by kernel_rfl }
def Tryz.sortF_ren : Go.Shelf.Ren := ⟨fun | 6 => 109 | 8 => 112 | 9 => 137 | 19 => 147 | 20 => 148 | 21 => 169 | 22 => 170 | 23 => 171 | 24 => 172 | 25 => 173 | 26 => 174 | 27 => 175 | 28 => 176 | 29 => 177 | 36 => 195 | 31 => 179 | 32 => 180 | 37 => 196 | 38 => 197 | 39 => 198 | 41 => 207 | n => n, fun | 27 => 43 | 29 => 9 | 3 => 3 | 32 => 37 | 26 => 43 | 0 => 0 | 44 => 208 | 46 => 34 | 4 => 4 | 36 => 200 | 35 => 199 | 41 => 205 | 5 => 5 | 9 => 9 | 53 => 229 | 57 => 232 | 63 => 245 | 64 => 246 | n => n, fun | n => n⟩
theorem Tryz.sortF : Go.Proofs.SlLaysM.n6 Tryz.prog Tryz.sortF_ren := {
  mixed := by kernel_rfl
  f6 := ⟨Tryz.f109.name, by decide, Tryz.func109.trans (congrArg some (by kernel_rfl))⟩
  f8 := Tryz.func112.trans (congrArg some (by kernel_rfl))
  f9 := ⟨Tryz.f137.name, by decide, Tryz.func137.trans (congrArg some (by kernel_rfl))⟩
  f19 := Tryz.func147.trans (congrArg some (by kernel_rfl))
  f20 := Tryz.func148.trans (congrArg some (by kernel_rfl))
  f21 := ⟨Tryz.f169.name, by decide, Tryz.func169.trans (congrArg some (by kernel_rfl))⟩
  f22 := ⟨Tryz.f170.name, by decide, Tryz.func170.trans (congrArg some (by kernel_rfl))⟩
  f23 := ⟨Tryz.f171.name, by decide, Tryz.func171.trans (congrArg some (by kernel_rfl))⟩
  f24 := ⟨Tryz.f172.name, by decide, Tryz.func172.trans (congrArg some (by kernel_rfl))⟩
  f25 := ⟨Tryz.f173.name, by decide, Tryz.func173.trans (congrArg some (by kernel_rfl))⟩
  f26 := ⟨Tryz.f174.name, by decide, Tryz.func174.trans (congrArg some (by kernel_rfl))⟩
  f27 := ⟨Tryz.f175.name, by decide, Tryz.func175.trans (congrArg some (by kernel_rfl))⟩
  f28 := ⟨Tryz.f176.name, by decide, Tryz.func176.trans (congrArg some (by kernel_rfl))⟩
  f29 := ⟨Tryz.f177.name, by decide, Tryz.func177.trans (congrArg some (by kernel_rfl))⟩
  f31 := Tryz.func179.trans (congrArg some (by kernel_rfl))
  f32 := Tryz.func180.trans (congrArg some (by kernel_rfl))
  f36 := ⟨Tryz.f195.name, by decide, Tryz.func195.trans (congrArg some (by kernel_rfl))⟩
  f37 := ⟨Tryz.f196.name, by decide, Tryz.func196.trans (congrArg some (by kernel_rfl))⟩
  f38 := ⟨Tryz.f197.name, by decide, Tryz.func197.trans (congrArg some (by kernel_rfl))⟩
  f39 := ⟨Tryz.f198.name, by decide, Tryz.func198.trans (congrArg some (by kernel_rfl))⟩
  f41 := ⟨Tryz.f207.name, by decide, Tryz.func207.trans (congrArg some (by kernel_rfl))⟩
  t0 := Tryz.underlying0
  a0 := Tryz.isAgg0
  z0 := Tryz.sizeOf0
  v0 := Tryz.zeroValue0
  t3 := Tryz.underlying3
  a3 := Tryz.isAgg3
  z3 := Tryz.sizeOf3
  v3 := Tryz.zeroValue3
  t4 := Tryz.underlying4
  a4 := Tryz.isAgg4
  z4 := Tryz.sizeOf4
  v4 := Tryz.zeroValue4
  t5 := Tryz.underlying5
  a5 := Tryz.isAgg5
  z5 := Tryz.sizeOf5
  v5 := Tryz.zeroValue5
  t9 := Tryz.underlying9
  a9 := Tryz.isAgg9
  z9 := Tryz.sizeOf9
  v9 := Tryz.zeroValue9
  t26 := Tryz.underlying43
  a26 := Tryz.isAgg43
  z26 := Tryz.sizeOf43
  v26 := Tryz.zeroValue43
  t27 := Tryz.underlying43
  a27 := Tryz.isAgg43
  z27 := Tryz.sizeOf43
  v27 := Tryz.zeroValue43
  t29 := Tryz.underlying9
  a29 := Tryz.isAgg9
  z29 := Tryz.sizeOf9
  v29 := Tryz.zeroValue9
  t32 := Tryz.underlying37
  a32 := Tryz.isAgg37
  z32 := Tryz.sizeOf37
  v32 := Tryz.zeroValue37
  t35 := Tryz.underlying199
  a35 := Tryz.isAgg199
  z35 := Tryz.sizeOf199
  v35 := Tryz.zeroValue199
  t36 := Tryz.underlying200
  a36 := Tryz.isAgg200
  z36 := Tryz.sizeOf200
  v36 := Tryz.zeroValue200
  t41 := Tryz.underlying205
  a41 := Tryz.isAgg205
  z41 := Tryz.sizeOf205
  v41 := Tryz.zeroValue205
  t44 := Tryz.underlying208
  a44 := Tryz.isAgg208
  z44 := Tryz.sizeOf208
  v44 := Tryz.zeroValue208
  t46 := Tryz.underlying34
  a46 := Tryz.isAgg34
  z46 := Tryz.sizeOf34
  v46 := Tryz.zeroValue34
  t53 := Tryz.underlying229
  a53 := Tryz.isAgg229
  z53 := Tryz.sizeOf229
  v53 := Tryz.zeroValue229
  t57 := Tryz.underlying232
  a57 := Tryz.isAgg232
  z57 := Tryz.sizeOf232
  v57 := Tryz.zeroValue232
  t63 := Tryz.underlying245
  a63 := Tryz.isAgg245
  z63 := Tryz.sizeOf245
  v63 := Tryz.zeroValue245
  t64 := Tryz.underlying246
  a64 := Tryz.isAgg246
  z64 := Tryz.sizeOf246
  v64 := Tryz.zeroValue246 }
def Tryz.itoaL_ren : Go.Shelf.Ren := ⟨fun | 171 => 107 | 243 => 135 | 246 => 168 | 283 => 191 | 284 => 192 | 285 => 193 | 286 => 194 | 129 => 148 | 317 => 203 | 318 => 204 | 319 => 205 | 320 => 206 | 337 => 209 | 338 => 210 | n => n, fun | 3 => 3 | 9 => 9 | 2 => 2 | 4 => 4 | 171 => 239 | 0 => 0 | 53 => 34 | 37 => 25 | 5 => 5 | 173 => 241 | 212 => 252 | 51 => 208 | 20 => 20 | 213 => 253 | 46 => 37 | 232 => 256 | 233 => 257 | n => n, fun | 17 => 0 | 18 => 1 | 19 => 2 | n => n⟩
theorem Tryz.itoaL : Go.Proofs.LaysM.n171 Tryz.prog Tryz.itoaL_ren := {
  mixed := by kernel_rfl
  f129 := Tryz.func148.trans (congrArg some (by kernel_rfl))
  f171 := Tryz.func107.trans (congrArg some (by kernel_rfl))
  f243 := Tryz.func135.trans (congrArg some (by kernel_rfl))
  f246 := Tryz.func168.trans (congrArg some (by kernel_rfl))
  f283 := Tryz.func191.trans (congrArg some (by kernel_rfl))
  f284 := Tryz.func192.trans (congrArg some (by kernel_rfl))
  f285 := Tryz.func193.trans (congrArg some (by kernel_rfl))
  f286 := Tryz.func194.trans (congrArg some (by kernel_rfl))
  f317 := Tryz.func203.trans (congrArg some (by kernel_rfl))
  f318 := Tryz.func204.trans (congrArg some (by kernel_rfl))
  f319 := Tryz.func205.trans (congrArg some (by kernel_rfl))
  f320 := Tryz.func206.trans (congrArg some (by kernel_rfl))
  f337 := Tryz.func209.trans (congrArg some (by kernel_rfl))
  f338 := Tryz.func210.trans (congrArg some (by kernel_rfl))
  t0 := Tryz.underlying0
  a0 := Tryz.isAgg0
  z0 := Tryz.sizeOf0
  v0 := Tryz.zeroValue0
  t2 := Tryz.underlying2
  a2 := Tryz.isAgg2
  z2 := Tryz.sizeOf2
  v2 := Tryz.zeroValue2
  t3 := Tryz.underlying3
  a3 := Tryz.isAgg3
  z3 := Tryz.sizeOf3
  v3 := Tryz.zeroValue3
  t4 := Tryz.underlying4
  a4 := Tryz.isAgg4
  z4 := Tryz.sizeOf4
  v4 := Tryz.zeroValue4
  t5 := Tryz.underlying5
  a5 := Tryz.isAgg5
  z5 := Tryz.sizeOf5
  v5 := Tryz.zeroValue5
  t9 := Tryz.underlying9
  a9 := Tryz.isAgg9
  z9 := Tryz.sizeOf9
  v9 := Tryz.zeroValue9
  t20 := Tryz.underlying20
  a20 := Tryz.isAgg20
  z20 := Tryz.sizeOf20
  v20 := Tryz.zeroValue20
  t37 := Tryz.underlying25
  a37 := Tryz.isAgg25
  z37 := Tryz.sizeOf25
  v37 := Tryz.zeroValue25
  t46 := Tryz.underlying37
  a46 := Tryz.isAgg37
  z46 := Tryz.sizeOf37
  v46 := Tryz.zeroValue37
  t51 := Tryz.underlying208
  a51 := Tryz.isAgg208
  z51 := Tryz.sizeOf208
  v51 := Tryz.zeroValue208
  t53 := Tryz.underlying34
  a53 := Tryz.isAgg34
  z53 := Tryz.sizeOf34
  v53 := Tryz.zeroValue34
  t171 := Tryz.underlying239
  a171 := Tryz.isAgg239
  z171 := Tryz.sizeOf239
  v171 := Tryz.zeroValue239
  t173 := Tryz.underlying241
  a173 := Tryz.isAgg241
  z173 := Tryz.sizeOf241
  v173 := Tryz.zeroValue241
  t212 := Tryz.underlying252
  a212 := Tryz.isAgg252
  z212 := Tryz.sizeOf252
  v212 := Tryz.zeroValue252
  t213 := Tryz.underlying253
  a213 := Tryz.isAgg253
  z213 := Tryz.sizeOf253
  t232 := Tryz.underlying256
  a232 := Tryz.isAgg256
  z232 := Tryz.sizeOf256
  v232 := Tryz.zeroValue256
  t233 := Tryz.underlying257
  a233 := Tryz.isAgg257
  z233 := Tryz.sizeOf257
  v233 := Tryz.zeroValue257
  g17 := by kernel_rfl
  g18 := by kernel_rfl
  g19 := by kernel_rfl
  i0 := by kernel_rfl
  i2 := by kernel_rfl
  i3 := by kernel_rfl
  i4 := by kernel_rfl
  i5 := by kernel_rfl
  i9 := by kernel_rfl
  i20 := by kernel_rfl
  i37 := by kernel_rfl
  i46 := by kernel_rfl
  i51 := by kernel_rfl
  i53 := by kernel_rfl
  i171 := by kernel_rfl
  i173 := by kernel_rfl
  i212 := by kernel_rfl
  i232 := by kernel_rfl
  i233 := by kernel_rfl
  m17 := by kernel_rfl
  m18 := by kernel_rfl
  m19 := by kernel_rfl }
end Go.Proofs

/- memo: the name of a run file. -/
namespace Go.Proofs.YtemilbemdlpkaaaGreatDoor
open Go.RowKit Go.ChangeMaps Go.MapKept
set_option linter.unusedSimpArgs false

/-- The name of a run file. -/
def runName (file it : ByteArray) : ByteArray := file ++ { data := #[45] } ++ it

set_option maxRecDepth 100000 in
set_option maxHeartbeats 1000000 in
theorem name_any (w : World) (m : Nat) (file it : ByteArray) (n : Int) (hf : w.cell? ⟨m, 2, none⟩ = some (.string file)) (hfs : file.size ≤ 100) (hits : it.size ≤ 100)
    (hIt : ∀ W, Kept (fun _ => False) w W → Calls Tryz.prog 107 #[.int .i64 n] W fun e w' => e = .returned (.string it) ∧ Kept (fun _ => False) W w') :
    Calls Tryz.prog 94 #[.pointer (some ⟨m, 0, none⟩), .int .i64 n] w fun e w' => e = .returned (.string (runName file it)) ∧ Kept (fun _ => False) w w' := by
  have hz1 : (file ++ { data := #[45] } : ByteArray).size ≤ maxLen := by
    rw [ByteArray.size_append]
    have h1 : ({ data := #[45] } : ByteArray).size = 1 := rfl
    unfold maxLen; omega
  have hz2 : (file ++ { data := #[45] } ++ it : ByteArray).size ≤ maxLen := by
    rw [ByteArray.size_append, ByteArray.size_append]
    have h1 : ({ data := #[45] } : ByteArray).size = 1 := rfl
    unfold maxLen; omega
  go_enter Tryz.func94, Tryz.ntmps94
  have HF := Lib.hid hf
  go_wp2_with fail
  go_region_with (go_at_call 107; go_loud (refine (hIt _ (Kept.refl _ _).drew).mono ?_; rintro e w1 ⟨rfl, hk1⟩; have hf1 : w1.cell? ⟨m, 2, none⟩ = some (.string file) := hk1.cell (show w.drew.cell? ⟨m, 2, none⟩ = some (.string file) from hf) (fun f => f)))
  all_goals (try go_wp2)
  all_goals (go_ret; exact ⟨rfl, ((Kept.refl _ _).drew).trans hk1 (fun _ _ f => f)⟩)
end Go.Proofs.YtemilbemdlpkaaaGreatDoor
