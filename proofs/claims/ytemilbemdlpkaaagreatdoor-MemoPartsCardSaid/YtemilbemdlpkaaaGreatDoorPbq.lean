/- memo: what read says; Open. -/
import Derived.Test.YtemilbemdlpkaaaGreatDoorPbo
import Derived.Test.YtemilbemdlpkaaaGreatDoorPbp
import Derived.Lib.SlicesS
import Derived.Test.YtemilbemdlpkaaaGreatDoorPai
namespace Go.Proofs.YtemilbemdlpkaaaGreatDoor
open Go.RowKit Go.ChangeMaps Go.MapKept
set_option linter.unusedSimpArgs false
attribute [local go_sem] Oper.semAt_some

theorem name_act18 {P : Program} {c : Code} {Q : Exit → Act → World → Prop} {a : Act} {w : World} (h : ∀ A0, A0 = a → c.wp P Q A0 w) : c.wp P Q a w := h a rfl
theorem isB_grown18 {A B : World} {v : Value} {bs : List UInt8} {row : Option Nat} (h : IsB A v bs) (hg : A.grownBy B row) (hr : ∀ k, row = some k → ∃ o : Obj, A.heap[k]? = some o ∧ o.isCells = false) : IsB B v bs := by
  have hk : Kept (fun k => row = some k) A B := Kept.grown (F := fun k => row = some k) (Kept.refl _ _) hg (fun k hk _ => hk)
  refine h.keptS hk (fun hne g e hrow => ?_)
  obtain ⟨o, ho, hc⟩ := hr g hrow
  obtain ⟨a, c, rfl, -, -, h3⟩ := h
  rcases h3 with h3 | ⟨g', off, rfl, -, hcell⟩
  · exact hne h3
  · cases e
    obtain ⟨x, l, hx⟩ := List.exists_cons_of_ne_nil hne
    have h5 := hcell 0 (.int .u8 (x.toNat : Int)) (by rw [hx]; rfl)
    unfold World.cell? at h5
    simp only [ho] at h5
    cases o <;> simp_all [Obj.isCells]
/-- What the ranges over functions have laid by is taken, all of it nothing. -/
theorem leaves_taken18 {F : Fence} {n : Nat} {P : Program} {fn : Func} {tmps : Array Value} {R : Ending → World → Prop} : ∀ (Ds : List Nat) (W : World), Ds.Nodup → (∀ D ∈ Ds, W.heap[D]? = some (.deferred (some []))) →
    (∀ W', Kept (fun k => k ∈ Ds) W W' → LeavesInM F n P fn tmps R [] .returning W') → LeavesInM F n P fn tmps R (Ds.map fun D => { target := .collected D, args := #[] }) .returning W
  | [], W, _, _, h => h W (Kept.refl _ _)
  | D :: Ds, W, hn, hD, h => by
    have hn' := List.nodup_cons.1 hn
    have hK := hD D (by simp)
    refine ⟨by simp, .inl ⟨_, _, rfl, run_takeDeferred hK, ?_⟩⟩
    have hkD : Kept (· = D) W (W.putObj D (.deferred none)) := (Kept.refl _ _).grown (grownBy_putObj' W D (.deferred none)) (fun k e _ => by cases e; rfl)
    refine leaves_taken18 Ds _ hn'.2 (fun E hE => ?_) (fun W' hk => h W' ((hkD.mono (fun _ _ e => by rw [e]; exact List.mem_cons_self ..)).trans hk (fun k _ hk' => List.mem_cons_of_mem _ hk')))
    have hne : ¬ E = D := fun e => hn'.1 (e ▸ hE)
    have h2 := hD E (List.mem_cons_of_mem _ hE)
    exact (hkD.block E (Array.getElem?_eq_some_iff.1 h2).1 hne).trans h2

def RdEnd (w : World) (p km : Nat) (row : Value → Obj) (O : Option (List (Nat × Nat) × List RunP)) (e : Ending) (w' : World) : Prop :=
  match O with
  | none => e = .returned (.bool false) ∧ Kept (fun k => k = p ∨ k = km) w w'
  | some (kn, ps) => e = .returned (.bool true) ∧ ∃ pts tv kes kclk, pts.map PtM.run = ps ∧ w'.heap[p]? = some (row tv) ∧ KnAt w' km kes kclk kn ∧ w'.ownsRow 0 109 2 tv pts.length (partsV pts) ∧
      (∀ x ∈ pts, OwnB w' x.v x.bs ∧ (∀ g, x.v.ownBlock = some g → w.heap.size ≤ g) ∧ x.n ≤ 4294967296 ∧ x.bs.length ≤ 4194304) ∧ (∀ g, tv.ownBlock = some g → w.heap.size ≤ g) ∧ pts.length ≤ 4 ∧ kn.length ≤ 65536 * 5 ∧ Kept (fun k => k = p ∨ k = km) w w'
/-- read does what readM says, at these numbers. -/
def ReadC (ns : List Nat) : Prop := ∀ (w : World) (p km b m : Nat) (es : Array MapEntry) (clock : Nat) (D : DM) (jp : Value) (file : ByteArray) (last : Nat) (dead : Bool) (kes : Array MapEntry) (kclk B b0 : Nat) (v : Value),
  w.heap[p]? = some (memRow (.pointer (some ⟨b, 0, none⟩)) jp file (.map (some km)) (.slice none 0 0) last dead) → KnAt w km kes kclk [] → DiskAt w b m es clock D → ¬ diskF b m es p → ¬ diskF b m es km → OwnZ b0 w v ns → TabB B w → B ≤ p → B ≤ km → B ≤ w.heap.size → file.size ≤ 21 →
  Calls Tryz.prog 44 #[.pointer (some ⟨p, 0, none⟩), v] w (RdEnd w p km (fun tv => memRow (.pointer (some ⟨b, 0, none⟩)) jp file (.map (some km)) tv last dead) (readM D file ns [] []))

set_option maxRecDepth 100000 in
theorem read_nil18 : ReadC [] := by
  intro w p km b m es clock D jp file last dead kes kclk B b0 v hrow hkn hd hp hkm hv hT hBp hBk hBw hfs
  obtain ⟨va, vc, rfl, -, -⟩ := hv.form
  have HH := Lib.hid (And.intro hrow hkn)
  clear hrow hkn hd hp hkm hv hT hBp hBk hBw hfs
  unfold readM RdEnd
  simp only []
  obtain ⟨w1, hw1⟩ : ∃ W, (w.alloc (.cells #[.pointer (some ⟨p, 0, none⟩)] 29)).alloc (.cells #[.bool false] 4) = W := ⟨_, rfl⟩
  have hk1 : Kept (fun _ => False) w w1 := by rw [← hw1]; exact ((Kept.refl _ _).alloc _).alloc _
  have hb1 : w1.heap[w.heap.size + 1]? = some (.cells #[.bool false] 4 (0, 0)) := by
    have h := heap_alloc_new (w.alloc (.cells #[.pointer (some ⟨p, 0, none⟩)] 29)) (.cells #[.bool false] 4)
    rw [World.size_alloc] at h
    rw [← hw1]; exact h
  have c1 : w1.cell? ⟨w.heap.size + 1, 0, none⟩ = some (.bool false) := by simp [World.cell?, hb1]
  have f1 : w1.frozen? ⟨w.heap.size + 1, 0, none⟩ = false := by simp [World.frozen?, hb1]
  have HW1 := Lib.hid (And.intro hw1 (And.intro hk1 hb1))
  clear hw1 hk1 hb1
  refine (callsIn_wide (n := 5)).1 ?_
  refine callsIn_of_wp_marks Tryz.func44 rfl trivial ?_ rfl
  refine (wpIn_wide (n := 5)).2 ?_
  simp only [Tryz.ntmps44, List.size_toArray, List.length_cons, List.length_nil, Nat.reduceAdd, Nat.reduceSub, Array.replicate_succ, Array.replicate_zero, List.push_toArray, List.append_toArray, List.nil_append, List.cons_append]
  go_wp2_with fail
  rw [HW1.out.1]
  go_loopg [16] 0 (fun g iv wr => iv = .int .i64 0 ∧ wr = w1)
  case atStart => exact ⟨rfl, rfl⟩
  case round =>
    obtain ⟨rfl, rfl⟩ := hrel
    go_wp2_with fail
    obtain ⟨hw1, hk1, hb1⟩ := HW1.out
    have hkS := (Kept.refl (· = w.heap.size + 1) wr).setCell (p := ⟨w.heap.size + 1, 0, none⟩) (fun _ => rfl) (.bool true)
    have hb9 : (wr.setCell ⟨w.heap.size + 1, 0, none⟩ (.bool true)).heap[w.heap.size + 1]? = some (.cells #[.bool true] 4 (0, 0)) := (heap_setCell_row hb1 _).trans rfl
    refine leaves_taken18 [] _ (by simp) (fun D hD => by simp at hD) (fun W' hk => ?_)
    have hbW := (hk.block _ (Array.getElem?_eq_some_iff.1 hb9).1 (by simp)).trans hb9
    have hcW : W'.cell? ⟨w.heap.size + 1, 0, none⟩ = some (.bool true) := by simp [World.cell?, hbW]
    have hkf : Kept (fun _ => False) w W' := (hk1.more hkS (fun i (e : i = _) => by omega)).trans hk (fun i _ hi => by simp at hi)
    obtain ⟨hrow, hkn⟩ := HH.out
    refine ⟨.bool true, by simp [results, Tryz.f44, go_sem, hcW], rfl, [], .slice none 0 0, kes, kclk, rfl, ?_, hkn.kept hkf (fun f => f), World.ownsRow_nil _ _ _ _, fun x hx => by simp at hx, (fun g e => by cases e), by simp, by simp, hkf.mono (fun _ _ f => f.elim)⟩
    exact (hkf.block p (Array.getElem?_eq_some_iff.1 hrow).1 (fun f => f)).trans hrow
end Go.Proofs.YtemilbemdlpkaaaGreatDoor

/- memo: the number of a run file's name. -/
namespace Go.Proofs.YtemilbemdlpkaaaGreatDoor
open Go.RowKit Go.ChangeMaps Go.MapKept
set_option linter.unusedSimpArgs false

theorem get_take18 (t : ByteArray) (k : Nat) (h : k < t.size) : t.data.toList.take (k + 1) = t.data.toList.take k ++ [t[k]] := by
  rw [List.take_succ_eq_append_getElem (by simpa using h)]; rfl

set_option maxRecDepth 100000 in
set_option maxHeartbeats 2000000 in
theorem numbered_any (B : Nat) (w : World) (p : Nat) (file s : ByteArray) (hf : w.cell? ⟨p, 2, none⟩ = some (.string file)) (hfs : file.size ≤ 100) (hs : s.size ≤ 1000) (hT : TabB B w) :
    Calls Tryz.prog 45 #[.pointer (some ⟨p, 0, none⟩), .string s] w fun e w' => e = .returned (.int .i64 (numOf file s : Nat)) ∧ Kept (fun _ => False) w w' := by
  have hz1 : (file ++ { data := #[45] } : ByteArray).size ≤ maxLen := by
    rw [ByteArray.size_append]
    have h1 : ({ data := #[45] } : ByteArray).size = 1 := rfl
    unfold maxLen; omega
  have hN : Hid (numOf file s = if (cutP s (file ++ { data := #[45] })).2 = false then 0 else match digGo 0 0 (cutP s (file ++ { data := #[45] })).1.data.toList with | none => 0 | some n => if runN file n = s then n else 0) := Lib.hid rfl
  have hC := Lib.hid (cutPrefix_any s (file ++ { data := #[45] }))
  have hCs : (cutP s (file ++ { data := #[45] })).1.size ≤ 1000 := by
    unfold cutP
    split
    · simp only [ByteArray.size_extract]; omega
    · exact hs
  generalize numOf file s = R at hN ⊢
  obtain ⟨⟨t, ok⟩, hq⟩ : ∃ q, cutP s (file ++ { data := #[45] }) = q := ⟨_, rfl⟩
  rw [hq] at hN hC hCs
  simp only at hN hCs
  clear hq
  have HT := Lib.hid hT
  have HFS := Lib.hid hfs
  clear hT
  cases ok with
  | false =>
    go_enter Tryz.func45, Tryz.ntmps45
    go_wp2_with fail
    go_step3
    go_wp2_with fail
    refine (hC.out _).mono ?_
    rintro e w1 ⟨rfl, rfl⟩
    go_wp2_with fail
    (try rw [Exit.noGoto_ret])
    go_ret
    rw [hN.out]
    exact ⟨rfl, Kept.refl _ _⟩
  | true =>
    go_enter Tryz.func45, Tryz.ntmps45
    go_wp2_with fail
    go_step3
    go_wp2_with fail
    refine (hC.out _).mono ?_
    rintro e w1 ⟨rfl, rfl⟩
    go_wp2_with fail
    go_step3
    go_wp2_with fail
    go_loopw [7, 24] (fun nv i wr => wr = w ∧ ∃ k n : Nat, k ≤ t.size ∧ i = .int .i64 k ∧ nv = .int .i64 n ∧ Hid (digGo 0 0 (t.data.toList.take k) = some n)) (fun _ i _ => t.size - (intOf i).toNat)
    case atStart => exact ⟨rfl, 0, 0, Nat.zero_le _, rfl, rfl, Lib.hid rfl⟩
    case round =>
      obtain ⟨rfl, k, n, hk, rfl, rfl, HD⟩ := hrel
      by_cases hlt : k < t.size
      · have hD := HD.out
        have hT1 := get_take18 t k hlt
        obtain ⟨c, hc⟩ : ∃ c, t[k] = c := ⟨_, rfl⟩
        rw [hc] at hT1
        have hkl : (t.data.toList.take k).length = k := by
          rw [List.length_take, Array.length_toList]
          have : t.data.size = t.size := rfl
          omega
        have hsn := digGo_snoc 0 0 (t.data.toList.take k) c n hD
        have hlt2 := digGo_lt 0 0 (t.data.toList.take k) n hD (by decide)
        rw [hkl] at hsn hlt2
        rw [← hT1, Nat.zero_add] at hsn
        rw [Nat.zero_add] at hlt2
        by_cases hbad : c < 48 ∨ 57 < c ∨ 10 ≤ k
        · have hR : Hid (R = 0) := Lib.hid (by
            rw [if_pos hbad] at hsn
            have h2 := digGo_none 0 0 _ (t.data.toList.drop (k + 1)) hsn
            rw [List.take_append_drop] at h2
            rw [hN.out, h2]; simp)
          have hb2 : c.toNat < 48 ∨ (48 ≤ c.toNat ∧ 57 < c.toNat) ∨ (48 ≤ c.toNat ∧ c.toNat ≤ 57 ∧ 10 ≤ k) := by
            have e1 : c < 48 ↔ c.toNat < 48 := UInt8.lt_iff_toNat_lt
            have e2 : 57 < c ↔ 57 < c.toNat := UInt8.lt_iff_toNat_lt
            rw [e1, e2] at hbad
            omega
          clear hN hD hsn hlt2 hT1 hkl HD hbad
          rcases hb2 with h1 | ⟨h1, h2⟩ | ⟨h1, h2, h3⟩
          all_goals
            go_wp2
            (try rw [Exit.noGoto_ret])
            go_ret
            rw [hR.out]
            exact ⟨rfl, Kept.refl _ _⟩
        · have hb2 : 48 ≤ c.toNat ∧ c.toNat ≤ 57 ∧ k < 10 := by
            have e1 : c < 48 ↔ c.toNat < 48 := UInt8.lt_iff_toNat_lt
            have e2 : 57 < c ↔ 57 < c.toNat := UInt8.lt_iff_toNat_lt
            rw [e1, e2] at hbad
            omega
          rw [if_neg hbad] at hsn
          obtain ⟨h1, h2, h3⟩ := hb2
          have hn9 : n < 1000000000 := by
            have h9 : 10 ^ k ≤ 10 ^ 9 := Nat.pow_le_pow_right (by omega) (by omega)
            have e9 : (10 : Nat) ^ 9 = 1000000000 := by decide
            omega
          have HS := Lib.hid hsn
          clear hN hD hsn hlt2 hT1 hkl HD hbad
          go_wp2
          go_roundw
          case rel => exact ⟨trivial, k + 1, 10 * n + (c.toNat - 48), by omega, by go_num, by simp only [Value.int.injEq, true_and]; omega, HS⟩
          case measure => simp [intOf]; omega
      · have hD := HD.out
        rw [List.take_of_length_le (by rw [Array.length_toList]; have : t.data.size = t.size := rfl; omega)] at hD
        have hlt2 := digGo_lt 0 0 _ n hD (by decide)
        have hn9 : n ≤ 10000000000 := by
          obtain ⟨h1, h2⟩ := hlt2
          rcases h2 with h2 | h2
          · rw [h2] at h1
            simp at h1
            omega
          · have h9 : 10 ^ (0 + t.data.toList.length) ≤ 10 ^ 10 := Nat.pow_le_pow_right (by omega) h2
            have e9 : (10 : Nat) ^ 10 = 10000000000 := by decide
            omega
        have hNM := Lib.hid (runName_any B wr p file n (by omega) hf hfs HT.out)
        have hNS := runN_size file n (by omega) hfs
        have hR : Hid (R = if runN file n = s then n else 0) := Lib.hid (by rw [hN.out, hD]; simp)
        clear hN hD hlt2 HD
        go_wp2_with fail
        refine hNM.out.mono ?_
        rintro e w1 ⟨rfl, hk1⟩
        generalize runN file n = nm at *
        by_cases he : nm = s
        · rw [if_pos he] at hR
          subst he
          go_wp2
          (try rw [Exit.noGoto_ret])
          go_ret
          rw [hR.out]
          exact ⟨rfl, hk1⟩
        · rw [if_neg he] at hR
          have hne : (nm.toList == s.toList) = false := by
            have h2 := (Lib.bytes_beq_false_iff nm s).2 he
            exact h2
          clear he
          go_wp2
          (try rw [Exit.noGoto_ret])
          go_ret
          rw [hR.out]
          exact ⟨rfl, hk1⟩
end Go.Proofs.YtemilbemdlpkaaaGreatDoor
