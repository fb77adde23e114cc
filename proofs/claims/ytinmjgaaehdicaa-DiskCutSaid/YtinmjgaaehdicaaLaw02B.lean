/- espalierlaw02.alike: two disks with the same files. -/
import Derived.Test.YtinmjgaaehdicaaDiskH
import Derived.Test.YtinmjgaaehdicaaKeys
import Derived.Test.YtinmjgaaehdicaaEqual
namespace Go.Proofs.Ytinmjgaaehdicaa
open Go.RowKit Go.ChangeMaps Go.MapKept

theorem DM.Same.refl (D : DM) : DM.Same D D := ⟨fun _ => rfl, rfl⟩
theorem DM.Same.symm {D D' : DM} (h : DM.Same D D') : DM.Same D' D := ⟨fun s => (h.files s).symm, h.len.symm⟩
theorem DM.Same.trans {D D' D'' : DM} (h : DM.Same D D') (k : DM.Same D' D'') : DM.Same D D'' := ⟨fun s => (h.files s).trans (k.files s), h.len.trans k.len⟩
theorem DM.Same.bytes {D D' : DM} (h : DM.Same D D') (s : ByteArray) : D.bytes s = D'.bytes s := by unfold DM.bytes; rw [h.files s]

theorem mem_keys {β : Type} {l : List (ByteArray × β)} {s : ByteArray} : s ∈ l.map (·.1) ↔ (getA s l).isSome = true := by
  constructor
  · intro h
    obtain ⟨p, hp, rfl⟩ := List.mem_map.1 h
    cases hg : getA p.1 l with
    | some x => rfl
    | none => exact absurd rfl (getA_none hg p hp)
  · intro h
    obtain ⟨x, hx⟩ := Option.isSome_iff_exists.1 h
    exact List.mem_map.2 ⟨_, getA_mem hx, rfl⟩

theorem names_same {D D' : DM} (h : DM.Same D D') (hn : NodupA D.files) (hn' : NodupA D'.files) : namesOf D.files = namesOf D'.files := by
  refine sort_perm ?_
  have : (D.files.map (·.1)).Perm (D'.files.map (·.1)) := (List.perm_ext_iff_of_nodup hn hn').2 fun s => by rw [mem_keys, mem_keys, h.files s]
  have h2 := this.map (fun s : ByteArray => s.data.toList)
  rw [List.map_map, List.map_map] at h2
  exact h2

theorem names_mem {D : DM} {x : List UInt8} (h : x ∈ namesOf D.files) : (getA (⟨x.toArray⟩ : ByteArray) D.files).isSome = true := by
  have h1 : x ∈ D.files.map (·.1.data.toList) := (List.mergeSort_perm _ _).mem_iff.1 h
  obtain ⟨p, hp, rfl⟩ := List.mem_map.1 h1
  have : (⟨p.1.data.toList.toArray⟩ : ByteArray) = p.1 := by simp
  rw [this]
  exact mem_keys.1 (List.mem_map.2 ⟨p, hp, rfl⟩)

theorem OwnS.form {w : World} {v : Value} {xs : List (List UInt8)} (h : OwnS w v xs) : ∃ a c, v = .slice a xs.length c ∧ xs.length ≤ c ∧ c ≤ maxLen ∧ (xs = [] ∨ ∃ g, a = some ⟨g, 0, none⟩ ∧ ∀ i x, xs[i]? = some x → w.cell? ⟨g, i, none⟩ = some (.string ⟨x.toArray⟩)) := by
  rcases h.2 with ⟨rfl, h0⟩ | ⟨g, cap, cur, rfl, _, hg, hn, hc, hs, ht⟩
  · have : xs = [] := List.length_eq_zero_iff.1 h0
    subst this
    exact ⟨none, 0, rfl, Nat.le_refl _, by simp [maxLen], .inl rfl⟩
  · refine ⟨_, cap, rfl, hn, hc, .inr ⟨g, rfl, fun i x hx => ?_⟩⟩
    rw [cell_of_row w g i cur 9 (0, 0) hg]
    have h2 : (xs.map encStr)[i]? = some (encStr x) := by rw [List.getElem?_map, hx]; rfl
    rw [← ht, List.getElem?_take] at h2
    split at h2
    · simpa using h2
    · cases h2

set_option maxRecDepth 100000 in
set_option maxHeartbeats 1000000 in
theorem alike_any {w : World} {b m b' m' : Nat} {es es' : Array MapEntry} {clk clk' : Nat} {D D' : DM} (h : DiskAt w b m es clk D) (h' : DiskAt w b' m' es' clk' D') (hS : DM.Same D D') :
    Calls Try.prog 21 #[.pointer (some ⟨b, 0, none⟩), .pointer (some ⟨b', 0, none⟩)] w fun e w' => e = .returned (.bool true) ∧ Kept (fun _ => False) w w' := by
  go_enter Try.func21, Try.ntmps21
  go_wp2_with fail
  refine (names_any h).mono ?_
  rintro e w1 ⟨v1, rfl, hv1, hk1, -⟩
  go_wp2_with fail
  refine (names_any (h'.kept hk1 (fun _ _ h => h))).mono ?_
  rintro e w2 ⟨v2, rfl, hv2, hk2, -⟩
  have hv1' : OwnS w2 v1 (namesOf D.files) := World.ownsRow.kept hv1 (hk2.grownBy none) (by cases v1.ownBlock <;> simp)
  rw [← names_same hS h.ok.nodup h'.ok.nodup] at hv2
  obtain ⟨a1, c1, rfl, hc1, hm1, hcell1⟩ := hv1'.form
  obtain ⟨a2, c2, rfl, hc2, hm2, hcell2⟩ := hv2.form
  have hmem : ∀ x ∈ namesOf D.files, (getA (⟨x.toArray⟩ : ByteArray) D.files).isSome = true := fun x hx => names_mem hx
  have hk : Kept (fun _ => False) w w2 := hk1.more hk2 (fun _ h => h.elim)
  have hnl : (namesOf D.files).length ≤ 256 := by
    have := h.ok.count
    unfold namesOf
    rw [List.length_mergeSort, List.length_map]; exact this
  generalize namesOf D.files = ns at *
  clear hv1 hv1' hv2 hk1 hk2
  go_wp2_with fail
  go_loopw [23] (fun i wr => ∃ k : Nat, k ≤ ns.length ∧ i = .int .i64 k ∧ Kept (fun _ => False) w2 wr) (fun i _ => ns.length - (intOf i).toNat)
  case atStart => exact ⟨0, Nat.zero_le _, rfl, Kept.refl _ _⟩
  case round =>
    obtain ⟨k, hkn, rfl, hkr⟩ := hrel
    by_cases hlt : k < ns.length
    · have hxk : ns[k]? = some ns[k] := List.getElem?_eq_getElem hlt
      obtain ⟨x, hx⟩ : ∃ x, ns[k] = x := ⟨_, rfl⟩
      rw [hx] at hxk
      have hxm : x ∈ ns := List.mem_of_getElem? hxk
      have hsome := hmem x hxm
      have hne : ns ≠ [] := fun e => by rw [e] at hlt; simp at hlt
      obtain ⟨g1, rfl, hg1⟩ := hcell1.resolve_left hne
      obtain ⟨g2, rfl, hg2⟩ := hcell2.resolve_left hne
      have hr1 : wr.cell? ⟨g1, k, none⟩ = some (.string ⟨x.toArray⟩) := hkr.cell (hg1 k x hxk) (fun h => h)
      have hr2 : wr.cell? ⟨g2, k, none⟩ = some (.string ⟨x.toArray⟩) := hkr.cell (hg2 k x hxk) (fun h => h)
      have hd : DiskAt wr b m es clk D := h.kept (hk.more hkr (fun _ h => h.elim)) (fun _ _ h => h)
      have hd' : DiskAt wr b' m' es' clk' D' := h'.kept (hk.more hkr (fun _ h => h.elim)) (fun _ _ h => h)
      have hsome' : (getA (⟨x.toArray⟩ : ByteArray) D'.files).isSome = true := by rw [← hS.files]; exact hsome
      have hby := hS.bytes (⟨x.toArray⟩ : ByteArray)
      clear hx hxk hmem
      generalize (⟨x.toArray⟩ : ByteArray) = sx at *
      go_wp2_with fail
      refine (read_any hd sx).mono ?_
      rintro e w3 ⟨v3, rfl, hf3, -⟩
      rw [hsome]
      have hr13 := hf3.kept.cell hr1 (fun h => h)
      have hr23 := hf3.kept.cell hr2 (fun h => h)
      go_wp2_with fail
      refine (read_any (hd'.kept hf3.kept (fun _ _ h => h)) sx).mono ?_
      rintro e w4 ⟨v4, rfl, hf4, -⟩
      rw [hsome']
      have hr14 := hf4.kept.cell hr13 (fun h => h)
      have hr24 := hf4.kept.cell hr23 (fun h => h)
      have hB3 := hf3.own.isB.keptF hf4.kept (fun _ _ h => h)
      have hB4 := hf4.own.isB
      rw [hby] at hB3
      have hdt : decide (D'.bytes sx = D'.bytes sx) = true := decide_eq_true rfl
      have hk4 : Kept (fun _ => False) w2 w4 := (hkr.more hf3.kept (fun _ h => h.elim)).more hf4.kept (fun _ h => h.elim)
      clear hby hf3 hf4
      go_wp2_with fail
      go_quiet ((go_at_call 17; exact Calls.quiet_of_same (equal_quiet hB3 hB4 _)))
      rename_i nq
      go_wp2
      go_roundw
      case rel => exact ⟨k + 1, by omega, by go_num, hk4.drewN nq⟩
      case measure => simp [intOf]; omega
    · go_wp2
      go_ret
      exact ⟨rfl, hk.more hkr (fun _ h => h.elim)⟩
end Go.Proofs.Ytinmjgaaehdicaa
