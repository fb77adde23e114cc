/- disk: what is done inside a raw write; may; raw. -/
import Derived.Test.YtjnhkepgoghogaaGreatDoorBytes
import Derived.Deep.RegionHeld3
namespace Go.Proofs.YtjnhkepgoghogaaGreatDoor
open Go.RowKit Go.ChangeMaps Go.MapKept

def okc (c : UInt8) : Bool := (decide (97 ≤ c.toNat) && decide (c.toNat ≤ 122)) || (decide (48 ≤ c.toNat) && decide (c.toNat ≤ 57)) || decide (c.toNat = 45) || decide (c.toNat = 46)
/-- a file's name -/
def mayB (s : ByteArray) : Bool := decide (1 ≤ s.size) && decide (s.size ≤ 32) && s.data.toList.all okc

theorem take_snoc (s : ByteArray) (k : Nat) (h : k < s.size) : s.data.toList.take (k + 1) = s.data.toList.take k ++ [s[k]] := by
  rw [List.take_succ_eq_append_getElem (by simpa using h)]; rfl

theorem all_snoc (s : ByteArray) (k : Nat) (h : k < s.size) (ha : (s.data.toList.take k).all okc = true) (hc : okc s[k] = true) : (s.data.toList.take (k + 1)).all okc = true := by
  rw [take_snoc s k h, List.all_append, ha]; simp [hc]

theorem not_all (s : ByteArray) (k : Nat) (h : k < s.size) (hc : okc s[k] = false) : mayB s = false := by
  have : s.data.toList.all okc = false := by
    rw [List.all_eq_false]
    exact ⟨s.data.toList[k]'(by simpa using h), List.getElem_mem _, by rw [show s.data.toList[k]'(by simpa using h) = s[k] from rfl, hc]; simp⟩
  simp [mayB, this]

theorem all_all (s : ByteArray) (n : Nat) (h : s.size ≤ n) (h2 : 1 ≤ s.size ∧ s.size ≤ 32) (ha : (s.data.toList.take n).all okc = true) : mayB s = true := by
  rw [List.take_of_length_le (by simpa using h)] at ha
  simp [mayB, h2] at ha ⊢
  exact ha

set_option maxHeartbeats 1000000 in
theorem may_any (s : ByteArray) (w : World) (hs : s.size ≤ maxLen) :
    Calls Tryz.prog 41 #[.string s] w fun e w' => e = .returned (.bool (mayB s)) ∧ w = w' := by
  unfold maxLen at hs
  by_cases h1 : s.size < 1
  · have H : Hid (mayB s = false) := by simp [mayB]; intro h; omega
    go_enter Tryz.func41, Tryz.ntmps41
    go_wp2
    go_ret
    exact ⟨by rw [H.out]; simp, rfl⟩
  · by_cases h2 : 32 < s.size
    · have H : Hid (mayB s = false) := by simp [mayB]; intro _ h; omega
      go_enter Tryz.func41, Tryz.ntmps41
      go_wp2
      go_ret
      exact ⟨by rw [H.out]; simp, rfl⟩
    · go_enter Tryz.func41, Tryz.ntmps41
      go_wp2
      go_loop [2, 3, 4, 21, 15, 16, 17, 18,19,20, 22,23,24,25,26,27,28,29,30,31,32,33,34,35,36,37,38] (fun r i c t21 k t16 t17 t18 t19 t20 t22 t23 t24 t25 t26 t27 t28 t29 t30 t31 t32 t33 t34 t35 t36 t37 t38 => ∃ n : Nat, n ≤ s.size ∧ k = .int .i64 n ∧ Hid ((s.data.toList.take n).all okc = true)) (fun r i c t21 k t16 t17 t18 t19 t20 t22 t23 t24 t25 t26 t27 t28 t29 t30 t31 t32 t33 t34 t35 t36 t37 t38 => s.size - (intOf k).toNat)
      case atStart => exact ⟨0, Nat.zero_le _, rfl, rfl⟩
      case round =>
        obtain ⟨n, hn, rfl, hall⟩ := hrel
        go_wp2
        all_goals first
          | (go_round
             case rel => exact ⟨n + 1, by omega, by go_num, all_snoc s n (by omega) hall (by simp only [okc, Bool.or_eq_true, Bool.and_eq_true, decide_eq_true_eq]; simp only [beq_iff_eq] at *; omega)⟩
             case measure => simp [intOf]; omega)
          | (go_ret
             have hlt : n < s.size := by assumption
             have H : Hid (mayB s = false) := not_all s n hlt (by simp only [okc, Bool.or_eq_false_iff, Bool.and_eq_false_iff, decide_eq_false_iff_not]; simp only [beq_eq_false_iff_ne] at *; omega)
             exact ⟨by rw [H.out]; rfl, rfl⟩)
          | (go_ret
             have hge : ¬ n < s.size := by assumption
             have H : Hid (mayB s = true) := all_all s n (by omega) (by omega) hall
             exact ⟨by rw [H.out]; rfl, rfl⟩)

theorem app1 (Bd Bn b m : Nat) (s : ByteArray) (w w2 : World)
    (hd : w.cell? ⟨Bd, 0, none⟩ = some (.pointer (some ⟨b, 0, none⟩))) (hn : w.cell? ⟨Bn, 0, none⟩ = some (.string s))
    (hb : w.cell? ⟨b, 0, none⟩ = some (.map (some m)))
    (hrun : (Instr.mapUpdate 57 (.map (some m)) (.string s) (.slice none 0 0)).run Tryz.prog (w.drew) = .ok () w2) :
    Calls Tryz.prog 43 #[.pointer (some ⟨Bd, 0, none⟩), .pointer (some ⟨Bn, 0, none⟩)] w fun e w' => e = .returned (.tuple #[]) ∧ w' = w2 := by
  go_enter Tryz.func43, Tryz.ntmps43
  go_wp2
  go_region
  go_end0
  exact ⟨rfl, rfl⟩

set_option maxHeartbeats 400000 in
theorem app2 (Bd Bn Bp b m : Nat) (s : ByteArray) (p v v' : Value) (w w1 w2 : World)
    (hd : w.cell? ⟨Bd, 0, none⟩ = some (.pointer (some ⟨b, 0, none⟩))) (hn : w.cell? ⟨Bn, 0, none⟩ = some (.string s)) (hp : w.cell? ⟨Bp, 0, none⟩ = some p)
    (hb : w.cell? ⟨b, 0, none⟩ = some (.map (some m)))
    (hd1 : w1.cell? ⟨Bd, 0, none⟩ = some (.pointer (some ⟨b, 0, none⟩))) (hn1 : w1.cell? ⟨Bn, 0, none⟩ = some (.string s)) (hb1 : w1.cell? ⟨b, 0, none⟩ = some (.map (some m))) (hp1 : w1.cell? ⟨Bp, 0, none⟩ = some p)
    (hd2 : w2.cell? ⟨Bd, 0, none⟩ = some (.pointer (some ⟨b, 0, none⟩))) (hn2 : w2.cell? ⟨Bn, 0, none⟩ = some (.string s)) (hb2 : w2.cell? ⟨b, 0, none⟩ = some (.map (some m))) (hp2 : w2.cell? ⟨Bp, 0, none⟩ = some p)
    (hl : (Instr.lookup 57 (.map (some m)) (.string s) false).run Tryz.prog w.drew = .ok v w.drew)
    (ha : (Builtin.append_ #[33, 33] 33 #[v, p]).run Tryz.prog w.drew = .ok v' w1)
    (hrun : (Instr.mapUpdate 57 (.map (some m)) (.string s) v').run Tryz.prog w1 = .ok () w2) :
    Calls Tryz.prog 44 #[.pointer (some ⟨Bd, 0, none⟩), .pointer (some ⟨Bn, 0, none⟩), .pointer (some ⟨Bp, 0, none⟩)] w fun e w' => e = .returned (.tuple #[]) ∧ w' = w2 := by
  go_enter Tryz.func44, Tryz.ntmps44
  go_wp2
  go_region_held3 (fun w' => w'.cell? ⟨Bd, 0, none⟩ = some (.pointer (some ⟨b, 0, none⟩)) ∧ w'.cell? ⟨Bn, 0, none⟩ = some (.string s) ∧ w'.cell? ⟨b, 0, none⟩ = some (.map (some m)) ∧ w'.cell? ⟨Bp, 0, none⟩ = some p)
    (first | exact ⟨hd1, hn1, hb1, hp1⟩ | exact ⟨hd2, hn2, hb2, hp2⟩ | exact ⟨hd, hn, hb, hp⟩)
    ((refine step_append_run rfl (.tmp 13) (.tmp 14) #[33, 33] rfl _ _ _ _ rfl rfl ha ?_))
  go_end0
  exact ⟨rfl, rfl⟩

theorem raw_cut (b : Nat) (w : World) (f : Value)
    (c3 : w.cell? ⟨b, 3, none⟩ = some (.bool true)) (c2 : w.cell? ⟨b, 2, none⟩ = some (.int .i64 0)) :
    Calls Tryz.prog 42 #[.pointer (some ⟨b, 0, none⟩), f] w fun e w' => e = .returned (.int .i64 6) ∧ w = w' := by
  go_enter Tryz.func42, Tryz.ntmps42
  go_wp2
  go_ret
  exact ⟨rfl, rfl⟩

theorem raw_free (b : Nat) (wr : Int) (w : World) (f : Nat) (caps : Array Value) (R : World → Prop) (h0 : 0 ≤ wr) (h1 : wr < 4611686018427387904)
    (c3 : w.cell? ⟨b, 3, none⟩ = some (.bool false)) (c1 : w.cell? ⟨b, 1, none⟩ = some (.int .i64 wr)) (f1 : w.frozen? ⟨b, 1, none⟩ = false)
    (hcall : ∀ w, (callFunc f caps).run Tryz.prog w = .ok (.enter f caps) w)
    (hf : Calls Tryz.prog f caps (w.setCell ⟨b, 1, none⟩ (.int .i64 (wr + 1))) fun e w' => e = .returned (.tuple #[]) ∧ R w') :
    Calls Tryz.prog 42 #[.pointer (some ⟨b, 0, none⟩), .func (.func f) #[] caps] w fun e w' => e = .returned (.int .i64 0) ∧ R w' := by
  go_enter Tryz.func42, Tryz.ntmps42
  go_wp2_with fail
  refine hf.mono ?_
  rintro e w' ⟨rfl, hr⟩
  go_wp2
  go_ret
  exact ⟨rfl, hr⟩

theorem raw_left (b : Nat) (wr lf : Int) (w : World) (f : Nat) (caps : Array Value) (R : World → Prop) (h0 : 0 ≤ wr) (h1 : wr < 4611686018427387904) (h2 : 0 < lf) (h3 : lf ≤ 9223372036854775807)
    (c3 : w.cell? ⟨b, 3, none⟩ = some (.bool true)) (c1 : w.cell? ⟨b, 1, none⟩ = some (.int .i64 wr)) (f1 : w.frozen? ⟨b, 1, none⟩ = false)
    (c2 : w.cell? ⟨b, 2, none⟩ = some (.int .i64 lf)) (f2 : w.frozen? ⟨b, 2, none⟩ = false)
    (hcall : ∀ w, (callFunc f caps).run Tryz.prog w = .ok (.enter f caps) w)
    (hf : Calls Tryz.prog f caps ((w.setCell ⟨b, 2, none⟩ (.int .i64 (lf - 1))).setCell ⟨b, 1, none⟩ (.int .i64 (wr + 1))) fun e w' => e = .returned (.tuple #[]) ∧ R w') :
    Calls Tryz.prog 42 #[.pointer (some ⟨b, 0, none⟩), .func (.func f) #[] caps] w fun e w' => e = .returned (.int .i64 0) ∧ R w' := by
  have hne : (lf == 0) = false := by simp; omega
  go_enter Tryz.func42, Tryz.ntmps42
  go_wp2_with fail
  refine hf.mono ?_
  rintro e w' ⟨rfl, hr⟩
  go_wp2
  go_ret
  exact ⟨rfl, hr⟩

theorem call_app1 (caps : Array Value) (w : World) : (callFunc 43 caps).run Tryz.prog w = .ok (.enter 43 caps) w := by kernel_rfl
end Go.Proofs.YtjnhkepgoghogaaGreatDoor
