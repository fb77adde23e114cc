/- store: Put over objects, with room; tree.Empty. -/
import Derived.Test.YtikacgiccllolaaGreatGetA
import Derived.Test.YtikacgiccllolaaGreatParts
namespace Go.Proofs.YtikacgiccllolaaGreat
open Go.RowKit Go.ChangeMaps Go.MapKept

/-- Room for m objects, none cut. -/
structure Room (D : DM) (J : JM) (m : Nat) : Prop where
  jcut : J.cut = false
  dcut : D.cut = false
  file : mayB J.file = true
  count : D.files.length ≤ m
  bytes : (D.bytes J.file).length ≤ 6000 * m
  size : J.size ≤ 6000 * m
  all : J.all.length ≤ 6000 * m
  writes : D.writes ≤ 6000 * (m : Int)
/-- A store of objects that may be put into; m calls of Put at most have been made. -/
def ObB (w : World) (s : Nat) (F : Nat → Prop) (os : List OM) (m : Nat) : Prop := ∃ D J, StoreAt w s F D J ∧ J.recs = os.map OM.enc ∧ (∀ o ∈ os, o.Ok) ∧ Room D J m ∧ os.length ≤ m
section
variable {w w' : World} {s : Nat} {F : Nat → Prop} {os : List OM} {m : Nat}
theorem ObB.ob (h : ObB w s F os m) : ObAt w s F os := by
  obtain ⟨D, J, h1, h2, h3, -, -⟩ := h
  exact ⟨D, J, h1, h2, h3⟩
theorem ObB.kept (h : ObB w s F os m) {G : Nat → Prop} (hk : Kept G w w') (hG : ∀ k, F k → ¬ G k) : ObB w' s F os m := by
  obtain ⟨D, J, h1, h2⟩ := h
  exact ⟨D, J, h1.kept hk hG, h2⟩
theorem ObB.keptN (h : ObB w s F os m) (hk : Kept (fun _ => False) w w') : ObB w' s F os m := h.kept hk (fun _ _ f => f)
theorem ObB.lt (h : ObB w s F os m) : ∀ k, F k → k < w.heap.size := h.ob.lt
theorem ObB.up (h : ObB w s F os m) : ObB w s F os (m + 1) := by
  obtain ⟨D, J, h1, h2, h3, ⟨a, b, c, d, e, f, g, i⟩, h5⟩ := h
  exact ⟨D, J, h1, h2, h3, ⟨a, b, c, by omega, by omega, by omega, by omega, by omega⟩, by omega⟩
end
theorem OM.enc_length {o : OM} (h : o.Ok) : o.enc.length ≤ 5000 := by
  cases o with
  | com t ps d =>
    obtain ⟨_, _, h3, _⟩ := h
    have := uintB_len ps.length 3 (by omega) (by omega)
    simp only [OM.enc, encC, List.length_append, wordsB_length, List.length_cons, List.length_nil]
    have hw : ∀ n, (wordB n).length = 8 := fun n => by simp [wordB]
    rw [hw, hw]
    omega
  | blob x =>
    have : x.length ≤ 4096 := h
    simp [OM.enc]; omega
  | empty => simp [OM.enc]
def putO (os : List OM) (o : OM) : Nat × Int × List OM :=
  match findO os o.id with
  | some o' => if o'.enc = o.enc then (o.id, 0, os) else (0, 7, os)
  | none => (o.id, 0, os ++ [o])
/-- What Put leaves. -/
def OEnd (w : World) (s : Nat) (F : Nat → Prop) (os : List OM) (m : Nat) (w' : World) : Prop :=
  ∃ F', ObB w' s F' os m ∧ (∀ k, F' k → F k ∨ w.heap.size ≤ k) ∧ Kept F w w'
theorem oput_any {w : World} {s : Nat} {F : Nat → Prop} {os : List OM} {m : Nat} (h : ObB w s F os m) (hm : m ≤ 100) (o : OM) (ho : o.Ok) (v : Value)
    (hE : Calls Tryz.prog 42 #[v] w fun e w' => ∃ u, e = .returned (.tuple #[u, .int .i64 0]) ∧ FreshB w u o.enc w') :
    Calls Tryz.prog 22 #[.pointer (some ⟨s, 0, none⟩), v] w fun e w' => e = .returned (.tuple #[.int .u64 (putO os o).1, .int .i64 (putO os o).2.1]) ∧ OEnd w s F (putO os o).2.2 (m + 1) w' := by
  obtain ⟨D, J, h1, h2, h3, ⟨a, b, c, d, e, f, g, i⟩, h5⟩ := h
  have hen := OM.enc_length ho
  have hrl := recB_length o.enc (by omega)
  refine (sput_any h1 a v o.enc hE (by omega) (by omega) (by omega) (by rw [h2, List.length_map]; omega) (by omega)).mono ?_
  rintro e' w' ⟨rfl, F', hS, hF, hk⟩
  have hf := append_free (recB o.enc) c b (by omega) (by omega)
  have hlen := append_len D J.file (recB o.enc)
  have hp : J.put D o.enc = (0, (D.append J.file (recB o.enc)).2, J.add o.enc (recB o.enc).length) := by unfold JM.put; rw [if_pos hf.1]
  have hfind : J.recs.find? (fun r => decide (idB r = idB o.enc)) = (findO os o.id).map OM.enc := by rw [h2]; exact findO_rec os o.id
  cases hfo : findO os o.id with
  | some o' =>
    rw [hfo] at hfind
    by_cases heq : o'.enc = o.enc
    · have hps : putS D J o.enc = (idB o.enc, 0, D, J) := by unfold putS; rw [hfind]; simp [heq]
      have hpo : putO os o = (o.id, 0, os) := by unfold putO; rw [hfo]; simp [heq]
      rw [hps] at hS ⊢
      rw [hpo]
      exact ⟨rfl, F', ⟨D, J, hS, h2, h3, ⟨a, b, c, by omega, by omega, by omega, by omega, by omega⟩, (by show os.length ≤ m + 1; omega)⟩, hF, hk⟩
    · have hps : putS D J o.enc = (0, 7, D, J) := by unfold putS; rw [hfind]; simp [heq]
      have hpo : putO os o = (0, 7, os) := by unfold putO; rw [hfo]; simp [heq]
      rw [hps] at hS ⊢
      rw [hpo]
      exact ⟨rfl, F', ⟨D, J, hS, h2, h3, ⟨a, b, c, by omega, by omega, by omega, by omega, by omega⟩, (by show os.length ≤ m + 1; omega)⟩, hF, hk⟩
  | none =>
    rw [hfo] at hfind
    have hps : putS D J o.enc = (idB o.enc, 0, (D.append J.file (recB o.enc)).2, J.add o.enc (recB o.enc).length) := by unfold putS; rw [hfind, hp]; rfl
    have hpo : putO os o = (o.id, 0, os ++ [o]) := by unfold putO; rw [hfo]
    rw [hps] at hS ⊢
    rw [hpo]
    have hlo : (os ++ [o]).length ≤ m + 1 := by simp; omega
    refine ⟨rfl, F', ⟨_, _, hS, by simp [JM.add, h2], fun y hy => ?_, ⟨a, hf.2.1, c, Nat.le_trans hlen (by omega), ?_, ?_, ?_, ?_⟩, hlo⟩, hF, hk⟩
    · rcases List.mem_append.1 hy with hy | hy
      · exact h3 y hy
      · rw [List.mem_singleton.1 hy]; exact ho
    · show ((D.append J.file (recB o.enc)).2.bytes J.file).length ≤ _
      rw [hf.2.2.1, List.length_append]
      omega
    · show J.size + (recB o.enc).length ≤ _
      omega
    · rw [JM.add_all, List.length_append]; omega
    · rw [hf.2.2.2.1]
      split <;> omega
set_option maxRecDepth 100000 in
theorem tempty_any {w : World} {s : Nat} {F : Nat → Prop} {os : List OM} {m : Nat} (h : ObB w s F os m) (hm : m ≤ 100) :
    Calls Tryz.prog 21 #[.pointer (some ⟨s, 0, none⟩)] w fun e w' => e = .returned (.tuple #[.int .u64 (putO os .empty).1, .int .i64 (putO os .empty).2.1]) ∧ OEnd w s F (putO os .empty).2.2 (m + 1) w' := by
  have hP := Lib.hid (fun W (hk : Kept (fun _ => False) w W) => oput_any (h.keptN hk) hm .empty trivial _ (encode_tree0 W))
  generalize putO os .empty = R at *
  clear h
  go_enter Tryz.func21, Tryz.ntmps21
  go_wp2_with fail
  refine (hP.out w (Kept.refl _ _)).mono ?_
  rintro e w1 ⟨rfl, hO⟩
  have HO := Lib.hid hO
  clear hO
  go_wp2_with fail
  go_ret2
  exact ⟨rfl, HO.out⟩
end Go.Proofs.YtikacgiccllolaaGreat
