/- espalierlaw02.step. -/
import Derived.Test.YtinmjgaaehdicaaLaw02B
import Derived.Test.YtinmjgaaehdicaaLaw02C
namespace Go.Proofs.Ytinmjgaaehdicaa
open Go.RowKit Go.ChangeMaps Go.MapKept

def OpV.val (o : OpV) : Value := .agg #[.int .i64 o.kind, .string o.name, .string o.to, .int .i64 o.n, .slice o.ba o.bytes.length o.bc]
def DM.step (D : DM) (o : OpV) : Int × DM :=
  match (o.kind % 4).toNat with
  | 0 => D.append o.name o.bytes
  | 1 => D.truncate o.name o.n
  | 2 => D.rename o.name o.to
  | _ => D.remove o.name

set_option maxRecDepth 100000 in
set_option maxHeartbeats 1000000 in
theorem step_any {w : World} {b m : Nat} {es : Array MapEntry} {clock : Nat} {D : DM} (h : DiskAt w b m es clock D) (o : OpV) (hv : IsB w o.bv o.bytes) (hsn : o.name.size ≤ maxLen) (hst : o.to.size ≤ maxLen)
    (hsep : o.bytes ≠ [] → ∀ g, o.bv.ownBlock = some g → ¬ diskF b m es g) (hw : D.writes < 2305843009213693952) :
    Calls Try.prog 20 #[.pointer (some ⟨b, 0, none⟩), o.val] w (EndD w b m es (D.step o).1 (D.step o).2) := by
  unfold OpV.val
  obtain ⟨w2, hw2, hk, hsz, hcs⟩ : ∃ w2, w.alloc (.cells #[.int .i64 o.kind, .string o.name, .string o.to, .int .i64 o.n, .slice o.ba o.bytes.length o.bc] 38) = w2 ∧ Kept (fun _ => False) w w2 ∧ w2.heap.size = w.heap.size + 1 ∧ ∀ j u, o.cells[j]? = some u → w2.cell? ((⟨w.heap.size, 0, none⟩ : Addr).add j) = some u :=
    ⟨_, rfl, (Kept.refl _ _).alloc _, by simp, fun j u hu => by rw [addr_add, Nat.zero_add, World.cell?_alloc_new]; simpa [OpV.cells] using hu⟩
  have hA0 : w2.cell? ⟨w.heap.size, 0, none⟩ = some (.int .i64 o.kind) := by have := hcs 0 (.int .i64 o.kind) rfl; simpa [addr_add] using this
  have hA1 : w2.cell? ⟨w.heap.size, 1, none⟩ = some (.string o.name) := by have := hcs 1 (.string o.name) rfl; simpa [addr_add] using this
  have hA2 : w2.cell? ⟨w.heap.size, 2, none⟩ = some (.string o.to) := by have := hcs 2 (.string o.to) rfl; simpa [addr_add] using this
  have hA3 : w2.cell? ⟨w.heap.size, 3, none⟩ = some (.int .i64 o.n) := by have := hcs 3 (.int .i64 o.n) rfl; simpa [addr_add] using this
  have hA4 : w2.cell? ⟨w.heap.size, 4, none⟩ = some (.slice o.ba o.bytes.length o.bc) := by have := hcs 4 (.slice o.ba o.bytes.length o.bc) rfl; simpa [addr_add] using this
  clear hcs
  have h2 := h.kept hk (fun _ _ hf => hf)
  have hlt : ∀ k, diskF b m es k → k < w.heap.size := h.lt
  have HD := Lib.hid h2
  have hEnd : ∀ (r : Int) (D' : DM) (e : Ending) (w' : World), EndD w2 b m es r D' e w' → EndD w b m es r D' e w' := by
    rintro r D' e w' ⟨he, es', c', hA⟩
    exact ⟨he, es', c', hA.disk, fun k hf => (hA.foot k hf).imp_right (fun hle => Nat.le_trans hk.size hle), Kept.trans (hk.mono (fun _ _ hf => hf.elim)) hA.kept fun _ _ hf => hf⟩
  have hwr : IntKind.u64.wrap o.kind = o.kind % 18446744073709551616 := by go_num
  have hj : ∃ j : Nat, j < 4 ∧ (IntKind.u64.wrap o.kind).tmod 4 = (j : Int) ∧ (o.kind % 4).toNat = j := by
    refine ⟨(o.kind % 4).toNat, by omega, ?_, rfl⟩
    rw [hwr, Int.tmod_eq_emod_of_nonneg (by omega)]
    omega
  obtain ⟨j, hj4, hjw, hjj⟩ := hj
  unfold DM.step
  rw [hjj]
  have hcase : j = 0 ∨ j = 1 ∨ j = 2 ∨ j = 3 := by omega
  clear hwr hjj
  clear h2
  rcases hcase with rfl | rfl | rfl | rfl
  all_goals first | simp only [show ((0 : Nat) : Int) = 0 from rfl] at hjw | simp only [show ((1 : Nat) : Int) = 1 from rfl] at hjw | simp only [show ((2 : Nat) : Int) = 2 from rfl] at hjw | simp only [show ((3 : Nat) : Int) = 3 from rfl] at hjw
  · go_enter Try.func20, Try.ntmps20
    go_wp2_with fail
    refine (append_any HD.out hsn _ _ _ (hv.keptF hk (fun _ _ h => h)) hsep hw).mono ?_
    rintro e w' ⟨rfl, hA⟩
    go_wp2
    go_ret
    exact hEnd _ _ _ _ ⟨rfl, hA⟩
  · go_enter Try.func20, Try.ntmps20
    go_wp2_with fail
    refine (truncate_any HD.out _ _ hw).mono ?_
    rintro e w' ⟨rfl, hA⟩
    go_wp2
    go_ret
    exact hEnd _ _ _ _ ⟨rfl, hA⟩
  · go_enter Try.func20, Try.ntmps20
    go_wp2_with fail
    refine (rename_any HD.out _ _ hst hw).mono ?_
    rintro e w' ⟨rfl, hA⟩
    go_wp2
    go_ret
    exact hEnd _ _ _ _ ⟨rfl, hA⟩
  · go_enter Try.func20, Try.ntmps20
    go_wp2_with fail
    refine (remove_any HD.out _ hw).mono ?_
    rintro e w' ⟨rfl, hA⟩
    go_wp2
    go_ret
    exact hEnd _ _ _ _ ⟨rfl, hA⟩
end Go.Proofs.Ytinmjgaaehdicaa
