/- espalierlaw02.DiskDoes: the walk. -/
import Derived.Test.YtjnhkepgoghogaaDoorRfdV
namespace Go.Proofs.YtjnhkepgoghogaaDoor
open Go.RowKit Go.ChangeMaps Go.MapKept
set_option linter.unusedSimpArgs false

def DM0 : DM := ⟨[], 0, 0, false⟩
theorem new_pair {w w1 w2 : World} {b m r : Nat} (hd : DiskAt w1 b m #[] 0 DM0) (hb : w.heap.size ≤ b) (hm : w.heap.size ≤ m) (hk : Kept (fun _ => False) w1 w2) (hr : RefAt w2 r (.slice none 0 0) [] DM0) (hrr : w1.heap.size ≤ r) (h01 : w.heap.size ≤ w1.heap.size) :
    ∃ F, DocAny w2 b r F DM0 ∧ ∀ k, F k → w.heap.size ≤ k := by
  refine ⟨fun k => diskF b m #[] k ∨ refF r (.slice none 0 0) [] k, ⟨m, #[], 0, _, _, DM0, hd.kept hk (fun _ _ f => f), hr, .refl _, fun k => Iff.rfl, fun k e f => ?_⟩, fun k e => ?_⟩
  · have h1 := hd.lt k e
    rcases f with rfl | f | ⟨p, hp, -⟩
    · omega
    · cases f
    · simp at hp
  · rcases e with e | e
    · rcases e with rfl | rfl | ⟨p, hp, -⟩
      · exact hb
      · exact hm
      · simp at hp
    · rcases e with rfl | e | ⟨p, hp, -⟩
      · omega
      · cases e
      · simp at hp
structure OpsIn (w : World) (v : Value) (g : Option Nat) (ns : List OpV) : Prop where
  form : ∃ a c, v = .slice a ns.length c ∧ ns.length ≤ c ∧ c ≤ maxLen
  at_ : ns = [] ∨ ∃ g' c, g = some g' ∧ g' < w.heap.size ∧ v = .slice (some ⟨g', 0, none⟩) ns.length c ∧ ∀ i x, (flatO ns)[i]? = some x → w.cell? ⟨g', i, none⟩ = some x
theorem OpsIn.of_owns {w : World} {base : Nat} {t : TypeId} {v : Value} {ns : List OpV} (h : w.ownsRow base t 5 v ns.length (flatO ns)) : ∃ g, OpsIn w v g ns ∧ ∀ k, g = some k → base ≤ k ∧ k < w.heap.size := by
  rcases h.2 with ⟨rfl, h0⟩ | ⟨g, cap, cur, rfl, hb, hg, hn, hc, hs, ht⟩
  · have : ns = [] := List.length_eq_zero_iff.1 h0
    subst this
    exact ⟨none, ⟨⟨none, 0, rfl, Nat.le_refl _, by simp [maxLen]⟩, .inl rfl⟩, fun k hk => by cases hk⟩
  · refine ⟨some g, ⟨⟨_, cap, rfl, hn, hc⟩, .inr ⟨g, cap, rfl, (Array.getElem?_eq_some_iff.1 hg).1, rfl, fun i x hx => ?_⟩⟩, fun k hk => by cases hk; exact ⟨hb, (Array.getElem?_eq_some_iff.1 hg).1⟩⟩
    rw [cell_of_row w g i cur t (0, 0) hg]
    rw [← ht, List.getElem?_take] at hx
    split at hx
    · simpa using hx
    · cases hx
theorem OpsIn.at {w : World} {a : Option Addr} {n c : Nat} {g : Option Nat} {ns : List OpV} (h : OpsIn w (.slice a n c) g ns) {k : Nat} (hk : k < ns.length) : ∃ q, a = some ⟨q, 0, none⟩ ∧ g = some q ∧ w.cell? ⟨q, k * 5, none⟩ = some (.int .i64 ns[k].kind) ∧ w.cell? ⟨q, k * 5 + 1, none⟩ = some (.string ns[k].name) ∧ w.cell? ⟨q, k * 5 + 2, none⟩ = some (.string ns[k].to) ∧ w.cell? ⟨q, k * 5 + 3, none⟩ = some (.int .i64 ns[k].n) ∧ w.cell? ⟨q, k * 5 + 4, none⟩ = some (.slice ns[k].ba ns[k].bytes.length ns[k].bc) := by
  rcases h.at_ with e | ⟨q, c', e1, hq, e2, hc⟩
  · rw [e] at hk; simp at hk
  · cases e2
    have key : ∀ j x, j < 5 → (ns[k].cells)[j]? = some x → w.cell? ⟨q, k * 5 + j, none⟩ = some x := fun j x hj hx => hc _ _ (by rw [flatO_get ns k j hk hj]; exact hx)
    exact ⟨q, rfl, e1, key 0 _ (by omega) rfl, key 1 _ (by omega) rfl, key 2 _ (by omega) rfl, key 3 _ (by omega) rfl, key 4 _ (by omega) rfl⟩
/-- What is asked of operations that came in. -/
structure InOps2 (w : World) (a : Option Addr) (n c : Nat) (l : List OpV) : Prop where
  ops : InOps w a n c l
  len : ∀ o ∈ l, o.bytes.length ≤ 140737488351232
theorem InOps2.short {w : World} {a : Option Addr} {n c : Nat} {l : List OpV} (h : InOps2 w a n c l) : ∀ o ∈ (l.take 60).map OpV.short, OpOk w o ∧ ∀ g, o.bytes ≠ [] → o.bv.ownBlock = some g → g < w.heap.size := by
  intro o ho
  obtain ⟨q, hq, rfl⟩ := List.mem_map.1 ho
  obtain ⟨h1, h2, h3, h4, h5, h6, h7⟩ := h.ops.ok q (List.mem_of_mem_take hq)
  have hl := h.len q (List.mem_of_mem_take hq)
  unfold OpV.short
  split
  · have hle : (q.bytes.take 300).length ≤ q.bytes.length := by rw [List.length_take]; omega
    have hi := (bytes_high h1 hle).2
    have he : q.bytes.take (q.bytes.take 300).length = q.bytes.take 300 := by rw [List.length_take, ← List.take_take]; simp
    rw [he] at hi
    exact ⟨⟨hi, by simp only []; rw [List.length_take]; omega, h2, h3, h4, h5, h6, h7⟩, fun g hne e => hi.block_lt hne g e⟩
  · exact ⟨⟨h1, hl, h2, h3, h4, h5, h6, h7⟩, fun g hne e => h1.block_lt hne g e⟩

/-- A copy of the first disk, in a block of its own. -/
theorem TwoAt.copied {w w2 w3 : World} {n0 : Nat} {X : Nat → Prop} {N : Int} {b0 r0 : Nat} {F0 : Nat → Prop} {D0 : DM} {b1 r1 : Nat} {F1 : Nat → Prop} {D1 : DM} {m : Nat} {es : Array MapEntry} {clock : Nat} {fv : Value} {S : List FileM} {R : DM} {b9 m9 c9 r9 : Nat} {e9 : Array MapEntry} {f9 : List (ByteArray × List UInt8)} {v9 : Value} {S9 : List FileM} (h : TwoAt w n0 X N b0 r0 F0 D0 b1 r1 F1 D1) (hX : ∀ k, X k → k < w.heap.size) (hn0 : n0 ≤ w.heap.size) (hN : 0 ≤ N) (hd : DocAt w b0 r0 F0 D0 m es clock fv S R) (hn : NewDisk w ⟨f9, 0, 0, false⟩ w2 b9 m9 e9 c9) (hs : DM.Same ⟨f9, 0, 0, false⟩ D0) (hr : RefAt w3 r9 v9 S9 ⟨R.files, 0, 0, false⟩) (hnr : ∀ i, refF r9 v9 S9 i → w2.heap.size ≤ i) (hk : Kept (fun _ => False) w2 w3) :
    TwoAt w3 n0 X N b0 r0 F0 D0 b9 r9 (fun k => diskF b9 m9 e9 k ∨ refF r9 v9 S9 k) ⟨f9, 0, 0, false⟩ := by
  have h2 := hn.kept.size
  refine h.fresh hX hn0 ⟨m9, e9, c9, v9, S9, ⟨R.files, 0, 0, false⟩, hn.disk.kept hk (fun _ _ f => f), hr, ⟨⟨fun s => (hd.like.same.files s).trans (hs.files s).symm, hd.like.same.len.trans hs.len.symm⟩, rfl, rfl, rfl⟩, fun _ => Iff.rfl, fun k e f => ?_⟩ (hn.kept.trans hk (fun _ _ f => f)) (fun k e => ?_) hN
  · have h1 := hn.disk.lt k e; have h3 := hnr k f; omega
  · rcases e with e | e
    · exact hn.new k e
    · have h3 := hnr k e; omega
/-- What stands in the array of the two worlds and in the operation's box. -/
def CellsW (W : World) (A B b0 r0 b1 r1 : Nat) (o : OpV) : Prop := W.cell? ⟨A, 0, none⟩ = some (.pointer (some ⟨b0, 0, none⟩)) ∧ W.cell? ⟨A, 1, none⟩ = some (.pointer (some ⟨r0, 0, none⟩)) ∧ W.cell? ⟨A, 2, none⟩ = some (.pointer (some ⟨b1, 0, none⟩)) ∧ W.cell? ⟨A, 3, none⟩ = some (.pointer (some ⟨r1, 0, none⟩)) ∧ W.cell? ⟨B, 0, none⟩ = some (.int .i64 o.kind) ∧ W.cell? ⟨B, 1, none⟩ = some (.string o.name) ∧ W.cell? ⟨B, 2, none⟩ = some (.string o.to) ∧ W.cell? ⟨B, 3, none⟩ = some (.int .i64 o.n) ∧ W.cell? ⟨B, 4, none⟩ = some (.slice o.ba o.bytes.length o.bc)
theorem CellsW.kept {W W' : World} {A B b0 r0 b1 r1 : Nat} {o : OpV} (h : CellsW W A B b0 r0 b1 r1 o) {G : Nat → Prop} (hk : Kept G W W') (h1 : ¬ G A) (h2 : ¬ G B) : CellsW W' A B b0 r0 b1 r1 o := by
  obtain ⟨e0, e1, e2, e3, e4, e5, e6, e7, e8⟩ := h
  exact ⟨hk.cell e0 h1, hk.cell e1 h1, hk.cell e2 h1, hk.cell e3 h1, hk.cell e4 h2, hk.cell e5 h2, hk.cell e6 h2, hk.cell e7 h2, hk.cell e8 h2⟩
set_option maxRecDepth 100000 in
set_option maxHeartbeats 8000000 in
theorem does_law (w : World) (a : Option Addr) (c : Nat) (l : List OpV) (h : InOps2 w a l.length c l) (hT : ∀ W, Kept (fun _ => False) w W → Tab10 W) :
    Calls Tryd.prog 3 #[.slice a l.length c] w fun e w' => e = .returned (.bool true) ∧ Kept (fun _ => False) w w' := by
  have HH := Lib.hid h
  have HT := Lib.hid hT
  clear h hT
  go_enter Tryd.func3, Tryd.ntmps3
  go_wp2_with fail
  refine (wakes02_any w).mono ?_
  rintro e w1 ⟨rfl, hk1⟩
  have HK1 := Lib.hid hk1
  clear hk1
  go_wp2_with fail
  refine (new_any w1).mono ?_
  rintro e w2 ⟨b0, m0, rfl, hb0, hm0, hd0, hk2⟩
  have HK2 := Lib.hid hk2
  go_wp2_with fail
  refine (rnew_any w2).mono ?_
  rintro e w3 ⟨⟨r0, rfl, hr0, hR0⟩, hk3⟩
  obtain ⟨F0, hD0, hF0⟩ := new_pair hd0 hb0 hm0 hk3 hR0 hr0 hk2.size
  have HK3 : Hid (Kept (fun _ => False) w w3) := Lib.hid ((HK1.out.trans hk2 (fun _ _ f => f)).trans hk3 (fun _ _ f => f))
  have HD0 := Lib.hid hD0
  have HF0 : Hid (∀ k, F0 k → w.heap.size ≤ k) := Lib.hid (fun k e => Nat.le_trans HK1.out.size (hF0 k e))
  clear hk2 hb0 hm0 hd0 hr0 hR0 hk3 hD0 hF0
  go_wp2_with fail
  refine (new_any w3).mono ?_
  rintro e w4 ⟨b1, m1, rfl, hb1, hm1, hd1, hk4⟩
  have HK4 := Lib.hid hk4
  go_wp2_with fail
  refine (rnew_any w4).mono ?_
  rintro e w5 ⟨⟨r1, rfl, hr1, hR1⟩, hk5⟩
  obtain ⟨F1, hD1, hF1⟩ := new_pair hd1 hb1 hm1 hk5 hR1 hr1 hk4.size
  have hk35 : Kept (fun _ => False) w3 w5 := hk4.trans hk5 (fun _ _ f => f)
  have HK5 : Hid (Kept (fun _ => False) w w5) := Lib.hid (HK3.out.trans hk35 (fun _ _ f => f))
  have HTW : Hid (TwoAt w5 w.heap.size (fun k => w5.heap.size ≤ k) 0 b0 r0 F0 DM0 b1 r1 F1 DM0) := Lib.hid ⟨HD0.out.kept hk35 (fun _ _ f => f), hD1, fun k e f => by have h1 := HD0.out.lt k e; have h2 := hF1 k f; omega, fun k e => by
    rcases e with e | e
    · exact ⟨HF0.out k e, by have h1 := (HD0.out.kept hk35 (fun _ _ f => f)).lt k e; omega⟩
    · exact ⟨Nat.le_trans HK3.out.size (hF1 k e), by have h1 := hD1.lt k e; omega⟩, by decide, by decide⟩
  clear hk4 hb1 hm1 hd1 hr1 hR1 hk5 hD1 hF1 hk35
  obtain ⟨w6, hw6⟩ : ∃ W, w5.alloc (.cells #[.pointer (some ⟨b0, 0, none⟩), .pointer (some ⟨r0, 0, none⟩), .pointer (some ⟨b1, 0, none⟩), .pointer (some ⟨r1, 0, none⟩)] 30) = W := ⟨_, rfl⟩
  have hk6 : Kept (fun _ => False) w5 w6 := by rw [← hw6]; exact (Kept.refl _ _).alloc _
  have hs6 : w6.heap.size = w5.heap.size + 1 := by rw [← hw6]; simp
  have hb6 : w6.heap[w5.heap.size]? = some (.cells #[.pointer (some ⟨b0, 0, none⟩), .pointer (some ⟨r0, 0, none⟩), .pointer (some ⟨b1, 0, none⟩), .pointer (some ⟨r1, 0, none⟩)] 30 (0, 0)) := by rw [← hw6]; exact heap_alloc_new _ _
  have HK6 : Hid (Kept (fun _ => False) w w6) := Lib.hid (HK5.out.trans hk6 (fun _ _ f => f))
  have HSC := Lib.hid (script_any w6 a c l (⟨HH.out.ops.len, HH.out.ops.le, HH.out.ops.cap, HH.out.ops.at_.imp id (fun ⟨g, o, e, hc⟩ => ⟨g, o, e, fun i x hx => HK6.out.cell (hc i x hx) (fun f => f)⟩), fun o ho => ⟨(HH.out.ops.ok o ho).1.keptF HK6.out (fun _ _ f => f), (HH.out.ops.ok o ho).2⟩⟩))
  obtain ⟨ns, hns⟩ : ∃ ns, (l.take 60).map OpV.short = ns := ⟨_, rfl⟩
  have HNS : Hid (∀ o ∈ ns, OpOk w o ∧ ∀ g, o.bytes ≠ [] → o.bv.ownBlock = some g → g < w.heap.size) := Lib.hid (by rw [← hns]; exact HH.out.short)
  have HNL : Hid (ns.length ≤ 60) := Lib.hid (by rw [← hns, List.length_map, List.length_take]; omega)
  rw [hns] at HSC
  have HS6 := Lib.hid hs6
  have HB6 := Lib.hid hb6
  have HK56 := Lib.hid hk6
  clear hns hs6 hb6 hk6
  go_wp2_with fail
  refine HSC.out.mono ?_
  rintro e w7 ⟨v, rfl, hrow, hk7⟩
  obtain ⟨g, hops, hgb⟩ := OpsIn.of_owns hrow
  obtain ⟨sa, sc, rfl, -, -⟩ := hops.form
  have HK7 : Hid (Kept (fun _ => False) w w7) := Lib.hid (HK6.out.trans hk7 (fun _ _ f => f))
  have HOP := Lib.hid hops
  have HGB := Lib.hid hgb
  obtain ⟨A, hA⟩ : ∃ A, w5.heap.size = A := ⟨_, rfl⟩
  have HAA : Hid (w.heap.size ≤ A ∧ A < w6.heap.size ∧ w6.heap.size ≤ w7.heap.size) := Lib.hid ⟨by rw [← hA]; exact HK5.out.size, by rw [HS6.out]; omega, hk7.size⟩
  have HCA : Hid (w7.heap[A]? = some (.cells #[.pointer (some ⟨b0, 0, none⟩), .pointer (some ⟨r0, 0, none⟩), .pointer (some ⟨b1, 0, none⟩), .pointer (some ⟨r1, 0, none⟩)] 30 (0, 0))) := Lib.hid (by rw [← hA]; exact (hk7.block _ (by rw [HS6.out]; omega) (fun f => f)).trans HB6.out)
  have HTX : Hid (TwoAt w7 w.heap.size (fun k => k = A ∨ g = some k) ((0 : Nat) * 5000000) b0 r0 F0 DM0 b1 r1 F1 DM0) := Lib.hid (by
    have h1 := HTW.out.keptX (HK56.out.trans hk7 (fun _ _ f => f)) (fun k e => e.elim)
    refine ⟨h1.d0, h1.d1, h1.sep, fun k e => ⟨(h1.new k e).1, fun x => (h1.new k e).2 ?_⟩, by simpa using h1.w0, by simpa using h1.w1⟩
    rcases x with x | x
    · omega
    · have h2 := (HGB.out k x).1
      rw [HS6.out] at h2
      omega)
  have HXL : Hid (∀ k, (k = A ∨ g = some k) → w.heap.size ≤ k ∧ k < w7.heap.size) := Lib.hid (fun k x => by
    have h3 := HAA.out
    rcases x with x | x
    · omega
    · have h2 := HGB.out k x; omega)
  obtain ⟨n, hn⟩ : ∃ n, ns.length = n := ⟨_, rfl⟩
  have HN := Lib.hid hn
  have hn60 : n ≤ 60 := by have := HNL.out; omega
  rw [hn] at HOP ⊢
  rw [hA]
  clear hrow hk7 hops hgb hn hw6 HTW HK56 HB6
  go_wp2_with fail
  go_loopg [19] n (fun gg i wr => ∃ k : Nat, k + gg = n ∧ i = .int .i64 k ∧ Hid (∃ b0 r0 F0 D0 b1 r1 F1 D1, wr.heap[A]? = some (.cells #[.pointer (some ⟨b0, 0, none⟩), .pointer (some ⟨r0, 0, none⟩), .pointer (some ⟨b1, 0, none⟩), .pointer (some ⟨r1, 0, none⟩)] 30 (0, 0)) ∧ TwoAt wr w.heap.size (fun k => k = A ∨ g = some k) ((k : Nat) * 5000000) b0 r0 F0 D0 b1 r1 F1 D1) ∧ Hid (Kept (fun k => w.heap.size ≤ k ∧ g ≠ some k) w7 wr))
  case atStart => exact ⟨0, by omega, rfl, Lib.hid ⟨_, _, _, _, _, _, _, _, HCA.out, HTX.out⟩, Lib.hid (Kept.refl _ _)⟩
  case round =>
    clear HCA HTX
    obtain ⟨k, hkg, rfl, HX, HK⟩ := hrel
    obtain ⟨b0, r0, F0, D0, b1, r1, F1, D1, hcA, hT2⟩ := HX.out
    have HKW : Hid (Kept (fun _ => False) w wr) := Lib.hid (HK7.out.more HK.out (fun i e => e.1))
    have HCW := Lib.hid hcA
    have HT2 := Lib.hid hT2
    clear HX hT2
    by_cases hlt : k < n
    · have hkl : k < ns.length := by have := HN.out; omega
      rw [← HN.out] at HOP
      obtain ⟨q, hq, hgq, s0, s1, s2, s3, s4⟩ := HOP.out.at hkl
      rw [HN.out] at HOP
      subst hq
      have hqb := (HGB.out q hgq).2
      obtain ⟨o, ho⟩ : ∃ o, ns[k] = o := ⟨_, rfl⟩
      have hom := HNS.out o (by rw [← ho]; exact List.getElem_mem hkl)
      have HOK : Hid (∀ W, Kept (fun _ => False) w W → OpOk W o) := Lib.hid (fun W hk => ⟨hom.1.src.keptF hk (fun _ _ f => f), hom.1.len, hom.1.sn, hom.1.st, hom.1.k1, hom.1.k2, hom.1.n1, hom.1.n2⟩)
      have HOB := Lib.hid hom.2
      rw [ho] at s0 s1 s2 s3 s4
      have hnq : ¬ (w.heap.size ≤ q ∧ g ≠ some q) := fun e => e.2 hgq
      have u0 := HK.out.cell s0 hnq
      have u1 := HK.out.cell s1 hnq
      have u2 := HK.out.cell s2 hnq
      have u3 := HK.out.cell s3 hnq
      have u4 := HK.out.cell s4 hnq
      obtain ⟨W1, hW1⟩ : ∃ W, wr.alloc (.cells #[.int .i64 o.kind, .string o.name, .string o.to, .int .i64 o.n, .slice o.ba o.bytes.length o.bc] 34) = W := ⟨_, rfl⟩
      have hkA : Kept (fun _ => False) wr W1 := by rw [← hW1]; exact (Kept.refl _ _).alloc _
      have hbA : W1.heap[wr.heap.size]? = some (.cells #[.int .i64 o.kind, .string o.name, .string o.to, .int .i64 o.n, .slice o.ba o.bytes.length o.bc] 34 (0, 0)) := by rw [← hW1]; exact heap_alloc_new _ _
      have hAl : A < wr.heap.size := by have h4 := HAA.out; have h5 := HK.out.size; omega
      have hs1 : W1.heap.size = wr.heap.size + 1 := by rw [← hW1]; simp
      have hcA1 := (hkA.block A hAl (fun f => f)).trans hcA
      have HKW1 : Hid (Kept (fun _ => False) w W1) := Lib.hid (HKW.out.trans hkA (fun _ _ f => f))
      have HKR : Hid (Kept (fun k => w.heap.size ≤ k ∧ g ≠ some k) w7 W1) := Lib.hid (HK.out.trans hkA (fun _ _ f => f.elim))
      have HCW1 := Lib.hid hcA1
      have HAL : Hid (A < W1.heap.size) := Lib.hid (by omega)
      have HAW := Lib.hid hAl
      have hCW : CellsW W1 A wr.heap.size b0 r0 b1 r1 o := by
        refine ⟨?_, ?_, ?_, ?_, ?_, ?_, ?_, ?_, ?_⟩ <;> simp [World.cell?, hcA1, hbA]
      have HSX : Hid (∀ W, Kept (fun _ => False) W1 W → CellsW W A wr.heap.size b0 r0 b1 r1 o) := Lib.hid (fun W hk => hCW.kept hk (fun f => f) (fun f => f))
      have HT0 : Hid (TwoAt W1 w.heap.size (fun k => k = A ∨ g = some k) ((k : Nat) * 5000000) b0 r0 F0 D0 b1 r1 F1 D1) := Lib.hid (HT2.out.keptX hkA (fun _ e => e.elim))
      have HT1 := Lib.hid HT0.out.swap
      have HLT : Hid (∀ i, F0 i ∨ F1 i → i < wr.heap.size) := Lib.hid (fun i e => e.elim (HT2.out.d0.lt i) (HT2.out.d1.lt i))
      have HKW7 : Hid (w.heap.size ≤ W1.heap.size ∧ w7.heap.size ≤ W1.heap.size) := Lib.hid ⟨HKW1.out.size, by have h5 := HK.out.size; omega⟩
      obtain ⟨x0, x1, x2, x3, y0, y1, y2, y3, y4⟩ := hCW
      have hk5 : ((k : Nat) : Int) * 5000000 + 5000000 ≤ ((k + 1 : Nat) : Int) * 5000000 := by omega
      clear hcA hom ho s0 s1 s2 s3 s4 hnq hqb hkA hbA hAl hs1 hcA1
      by_cases h3 : k % 4 = 3
      · have h3b : ((k : Int) % 4 == 3) = true := by simp; omega
        by_cases h6 : (IntKind.u64.wrap o.kind).tmod 9 = 6
        · skip
          have h6b : (6 == 6) = true := rfl
          have HS0 := HSX.out W1.drew (drew_kept W1)
          obtain ⟨dm, de, dc, dfv, dS, dR, hdoc⟩ := (HT1.out).d0
          have HDOC := Lib.hid (hdoc.keptN (drew_kept W1))
          have hz29 : ∀ w, (zeroValue 29).run Tryd.prog w = .ok (.agg #[.pointer none, .pointer none]) w := fun _ => by kernel_rfl
          have hq0 : IntKind.i64.wrap 0 = 0 := by decide
          have hq1 : IntKind.i64.wrap 1 = 1 := by decide
          have HC1 := Lib.hid (copy_any HDOC.out.disk)
          clear hdoc
          go_wp2_with fail
          refine wp_region_phase (fun W => CellsW W A wr.heap.size b0 r0 b1 r1 o) (fun i => i == 14) (by kernel_rfl) HS0 (fun _ => ?_)
          refine wpAnyG_take (i := 0) (v := ?_) rfl (by kernel_rfl) (by kernel_rfl) (by kernel_rfl) (by kernel_rfl) (fun _ _ _ h => h) (Or.inl ⟨by rfl, ?_⟩) HS0 ?_
          rotate_left
          (intro w' hSw'; have ⟨_, _, _, _, _, _, _, _, _⟩ := hSw'; go_simp; try with_reducible rfl)
          try simp only [Act.put, List.setIfInBounds_toArray, List.set_cons_zero, List.set_cons_succ, List.getElem_toArray, List.getElem_cons_zero, List.getElem_cons_succ]
          refine wpAnyG_take (i := 1) (v := ?_) rfl (by kernel_rfl) (by kernel_rfl) (by kernel_rfl) (by kernel_rfl) (fun _ _ _ h => h) (Or.inl ⟨by rfl, ?_⟩) HS0 ?_
          rotate_left
          (intro w' hSw'; have ⟨_, _, _, _, _, _, _, _, _⟩ := hSw'; go_simp; try with_reducible rfl)
          try simp only [Act.put, List.setIfInBounds_toArray, List.set_cons_zero, List.set_cons_succ, List.getElem_toArray, List.getElem_cons_zero, List.getElem_cons_succ]
          refine wpAnyG_take (i := 2) (v := ?_) rfl (by kernel_rfl) (by kernel_rfl) (by kernel_rfl) (by kernel_rfl) (fun _ _ _ h => h) (Or.inl ⟨by rfl, ?_⟩) HS0 ?_
          rotate_left
          (intro w' hSw'; have ⟨_, _, _, _, _, _, _, _, _⟩ := hSw'; go_simp; try with_reducible rfl)
          try simp only [Act.put, List.setIfInBounds_toArray, List.set_cons_zero, List.set_cons_succ, List.getElem_toArray, List.getElem_cons_zero, List.getElem_cons_succ]
          refine wpAnyG_take (i := 3) (v := ?_) rfl (by kernel_rfl) (by kernel_rfl) (by kernel_rfl) (by kernel_rfl) (fun _ _ _ h => h) (Or.inl ⟨by rfl, ?_⟩) HS0 ?_
          rotate_left
          (intro w' hSw'; have ⟨_, _, _, _, _, _, _, _, _⟩ := hSw'; go_simp; try with_reducible rfl)
          try simp only [Act.put, List.setIfInBounds_toArray, List.set_cons_zero, List.set_cons_succ, List.getElem_toArray, List.getElem_cons_zero, List.getElem_cons_succ]
          refine wpAnyG_take (i := 4) (v := ?_) rfl (by kernel_rfl) (by kernel_rfl) (by kernel_rfl) (by kernel_rfl) (fun _ _ _ h => h) (Or.inl ⟨by rfl, ?_⟩) HS0 ?_
          rotate_left
          (intro w' hSw'; have ⟨_, _, _, _, _, _, _, _, _⟩ := hSw'; go_simp; try with_reducible rfl)
          try simp only [Act.put, List.setIfInBounds_toArray, List.set_cons_zero, List.set_cons_succ, List.getElem_toArray, List.getElem_cons_zero, List.getElem_cons_succ]
          refine wpAnyG_take (i := 5) (v := ?_) rfl (by kernel_rfl) (by kernel_rfl) (by kernel_rfl) (by kernel_rfl) (fun _ _ _ h => h) (Or.inl ⟨by rfl, ?_⟩) HS0 ?_
          rotate_left
          (intro w' hSw'; have ⟨_, _, _, _, _, _, _, _, _⟩ := hSw'; go_simp; try with_reducible rfl)
          try simp only [Act.put, List.setIfInBounds_toArray, List.set_cons_zero, List.set_cons_succ, List.getElem_toArray, List.getElem_cons_zero, List.getElem_cons_succ]
          refine wpAnyG_take (i := 7) (v := ?_) rfl (by kernel_rfl) (by kernel_rfl) (by kernel_rfl) (by kernel_rfl) (fun _ _ _ h => h) (Or.inl ⟨by rfl, ?_⟩) HS0 ?_
          rotate_left
          (intro w' hSw'; have ⟨_, _, _, _, _, _, _, _, _⟩ := hSw'; go_simp; try with_reducible rfl)
          try simp only [Act.put, List.setIfInBounds_toArray, List.set_cons_zero, List.set_cons_succ, List.getElem_toArray, List.getElem_cons_zero, List.getElem_cons_succ]
          refine wpAnyG_take (i := 8) (v := ?_) rfl (by kernel_rfl) (by kernel_rfl) (by kernel_rfl) (by kernel_rfl) (fun _ _ _ h => h) (Or.inl ⟨by rfl, ?_⟩) HS0 ?_
          rotate_left
          (intro w' hSw'; have ⟨_, _, _, _, _, _, _, _, _⟩ := hSw'; go_simp; try with_reducible rfl)
          try simp only [Act.put, List.setIfInBounds_toArray, List.set_cons_zero, List.set_cons_succ, List.getElem_toArray, List.getElem_cons_zero, List.getElem_cons_succ]
          refine wpAnyG_take (i := 9) (v := ?_) rfl (by kernel_rfl) (by kernel_rfl) (by kernel_rfl) (by kernel_rfl) (fun _ _ _ h => h) (Or.inl ⟨by rfl, ?_⟩) HS0 ?_
          rotate_left
          (intro w' hSw'; have ⟨_, _, _, _, _, _, _, _, _⟩ := hSw'; go_simp; try with_reducible rfl)
          try simp only [Act.put, List.setIfInBounds_toArray, List.set_cons_zero, List.set_cons_succ, List.getElem_toArray, List.getElem_cons_zero, List.getElem_cons_succ]
          refine wpAnyG_take (i := 10) (v := ?_) rfl (by kernel_rfl) (by kernel_rfl) (by kernel_rfl) (by kernel_rfl) (fun _ _ _ h => h) (Or.inl ⟨by rfl, ?_⟩) HS0 ?_
          rotate_left
          (intro w' hSw'; have ⟨_, _, _, _, _, _, _, _, _⟩ := hSw'; go_simp; try with_reducible rfl)
          try simp only [Act.put, List.setIfInBounds_toArray, List.set_cons_zero, List.set_cons_succ, List.getElem_toArray, List.getElem_cons_zero, List.getElem_cons_succ]
          refine wpAnyG_ready (rs := [6]) (by kernel_rfl) (by simp) ?_
          refine AllG.cons rfl (ph' := false) (by kernel_rfl) (fun K hK => ?_) AllG.nil
          go_simp
          go_at_call 11
          refine HC1.out.mono ?_
          rintro e w2 ⟨b9, m9, e9, c9, f9, rfl, hnd, hsm⟩
          have HS2 := CellsW.kept HS0 hnd.kept (fun f => f) (fun f => f)
          refine hK.out _ _ (fun _ => HS2) ?_
          clear hK K
          try simp only [Act.put, List.setIfInBounds_toArray, List.set_cons_zero, List.set_cons_succ, List.getElem_toArray, List.getElem_cons_zero, List.getElem_cons_succ]
          refine wpAnyG_ready (rs := [11]) (by kernel_rfl) (by simp) ?_
          refine AllG.cons rfl (ph' := false) (by kernel_rfl) (fun K hK => ?_) AllG.nil
          go_simp
          go_at_call 12
          refine (rcopy_any (HDOC.out.ref.kept hnd.kept (fun _ _ f => f))).mono ?_
          rintro e w3 ⟨⟨r9, v9, S9, rfl, hr9, hn9⟩, hk3⟩
          have HS3 := CellsW.kept HS2 hk3 (fun f => f) (fun f => f)
          refine hK.out _ _ (fun _ => HS3) ?_
          clear hK K
          try simp only [Act.put, List.setIfInBounds_toArray, List.set_cons_zero, List.set_cons_succ, List.getElem_toArray, List.getElem_cons_zero, List.getElem_cons_succ]
          have HT9 := Lib.hid (((HT1.out).keptX (drew_kept W1) (fun _ e => e.elim)).copied (fun q x => by have h4 := HXL.out q x; have h5 := HKW7.out; show q < W1.heap.size; omega) (by have h5 := HKW7.out; show w.heap.size ≤ W1.heap.size; omega) (by omega) HDOC.out hnd hsm hr9 hn9 hk3)
          have HKD : Hid (Kept (fun _ => False) W1.drew w3) := Lib.hid (hnd.kept.trans hk3 (fun _ _ f => f))
          refine wpAnyG_ready (rs := [12]) (by kernel_rfl) (by simp) ?_
          refine AllG.cons rfl (ph' := false) (by kernel_rfl) (fun K hK => ?_) AllG.nil
          go_simp
          refine hK.out _ _ (fun _ => HS3) ?_
          clear hK K
          try simp only [Act.put, List.setIfInBounds_toArray, List.set_cons_zero, List.set_cons_succ, List.getElem_toArray, List.getElem_cons_zero, List.getElem_cons_succ]
          refine wpAnyG_takeU (i := 13) (v := ?_) rfl (by kernel_rfl) (by kernel_rfl) (by kernel_rfl) (by kernel_rfl) (fun _ _ _ h => h) (Or.inl ⟨by rfl, ?_⟩) (fun _ => HS3) ?_
          rotate_left
          (intro w' hSw'; go_simp; try with_reducible rfl)
          try simp only [Act.put, List.setIfInBounds_toArray, List.set_cons_zero, List.set_cons_succ, List.getElem_toArray, List.getElem_cons_zero, List.getElem_cons_succ]
          have hcA3 : w3.heap[A]? = some (.cells #[.pointer (some ⟨b0, 0, none⟩), .pointer (some ⟨r0, 0, none⟩), .pointer (some ⟨b1, 0, none⟩), .pointer (some ⟨r1, 0, none⟩)] 30 (0, 0)) := (HKD.out.block A HAL.out (fun f => f)).trans ((drew_kept W1).block A HAL.out (fun f => f) |>.trans HCW1.out)
          have g0 : w3.frozen? ⟨A, 0, none⟩ = false := by simp [World.frozen?, hcA3]
          have g1 : w3.frozen? ⟨A, 1, none⟩ = false := by simp [World.frozen?, hcA3]
          have g2 : w3.frozen? ⟨A, 2, none⟩ = false := by simp [World.frozen?, hcA3]
          have g3 : w3.frozen? ⟨A, 3, none⟩ = false := by simp [World.frozen?, hcA3]
          obtain ⟨z0, z1, z2, z3, z4, z5, z6, z7, z8⟩ := HS3
          refine wpAnyG_ready (rs := [14]) (by kernel_rfl) (by simp) ?_
          refine AllG.cons rfl (ph' := true) (by kernel_rfl) (fun K hK => ?_) AllG.nil
          go_simp
          obtain ⟨w4, hw4⟩ : ∃ W, (w3.setCell ⟨A, 0, none⟩ (.pointer (some ⟨b9, 0, none⟩))).setCell ⟨A, 1, none⟩ (.pointer (some ⟨r9, 0, none⟩)) = W := ⟨_, rfl⟩
          have hcA4 : w4.heap[A]? = some (.cells #[.pointer (some ⟨b9, 0, none⟩), .pointer (some ⟨r9, 0, none⟩), .pointer (some ⟨b1, 0, none⟩), .pointer (some ⟨r1, 0, none⟩)] 30 (0, 0)) := by rw [← hw4]; exact (heap_setCell_row (heap_setCell_row hcA3 _) _).trans rfl
          have hk4 : Kept (· = A) w3 w4 := by rw [← hw4]; exact ((Kept.refl (· = A) w3).setCell (p := ⟨A, 0, none⟩) (fun _ => rfl) _).setCell (p := ⟨A, 1, none⟩) (fun _ => rfl) _
          have hnA : ¬ wr.heap.size = A := by have h4 := HAW.out; omega
          have HT4 := Lib.hid (HT9.out.keptX hk4 (fun k e => .inl (.inl e)))
          have HC4 := Lib.hid hcA4
          have HK4 := Lib.hid hk4
          have p0 : w4.cell? ⟨A, 0, none⟩ = some (.pointer (some ⟨b9, 0, none⟩)) := by simp [World.cell?, hcA4]
          have p1 : w4.cell? ⟨A, 1, none⟩ = some (.pointer (some ⟨r9, 0, none⟩)) := by simp [World.cell?, hcA4]
          have p2 : w4.cell? ⟨A, 2, none⟩ = some (.pointer (some ⟨b1, 0, none⟩)) := by simp [World.cell?, hcA4]
          have p3 : w4.cell? ⟨A, 3, none⟩ = some (.pointer (some ⟨r1, 0, none⟩)) := by simp [World.cell?, hcA4]
          rw [hw4]
          refine hK.out _ _ (fun h => by cases h) ?_
          clear hK K
          try simp only [Act.put, List.setIfInBounds_toArray, List.set_cons_zero, List.set_cons_succ, List.getElem_toArray, List.getElem_cons_zero, List.getElem_cons_succ]
          refine wpAnyG_done (by kernel_rfl) ?_ _
          clear HS0 HS2 hcA4 hk4 hw4 hcA3 g0 g1 g2 g3 z0 z1 z2 z3 z4 z5 z6 z7 z8 hnd hsm hr9 hn9 hk3
          go_wp2_with fail
          obtain ⟨xm, xe, xc, xf, xS, xR, hx9⟩ := HT4.out.d1
          refine (whole_any hx9).mono ?_
          rintro e w5 ⟨rfl, hk5w⟩
          have HKN : Hid (Kept (fun k => w.heap.size ≤ k ∧ g ≠ some k) w7 w5) := Lib.hid ((((HKR.out.trans (drew_kept W1) (fun _ _ f => f.elim)).trans HKD.out (fun _ _ f => f.elim)).trans HK4.out (fun i _ e => by subst e; exact ⟨HAA.out.1, fun x => by have h4 := (HGB.out _ x).1; have h5 := HAA.out.2.1; omega⟩)).trans hk5w (fun _ _ f => f.elim))
          have HXN : Hid (∃ b0 r0 F0 D0 b1 r1 F1 D1, w5.heap[A]? = some (.cells #[.pointer (some ⟨b0, 0, none⟩), .pointer (some ⟨r0, 0, none⟩), .pointer (some ⟨b1, 0, none⟩), .pointer (some ⟨r1, 0, none⟩)] 30 (0, 0)) ∧ TwoAt w5 w.heap.size (fun k => k = A ∨ g = some k) (((k + 1 : Nat) : Int) * 5000000) b0 r0 F0 D0 b1 r1 F1 D1) := Lib.hid ⟨_, _, _, _, _, _, _, _, (hk5w.block A (Array.getElem?_eq_some_iff.1 HC4.out).1 (fun f => f)).trans HC4.out, ((HT4.out.keptX hk5w (fun _ e => e.elim)).mono (by omega)).swap⟩
          clear hx9 hk5w
          go_wp2_with fail
          go_roundg (gk - 1)
          case measure => omega
          case rel => exact ⟨k + 1, by omega, by go_num, HXN, HKN⟩
        · have h6b : ((IntKind.u64.wrap o.kind).tmod 9 == 6) = false := by simp [h6]
          have HS0 := HSX.out W1.drew (drew_kept W1)
          obtain ⟨dm, de, dc, dfv, dS, dR, hdoc⟩ := (HT1.out).d0
          have HDC := Lib.hid (does_any (hdoc.keptN (drew_kept W1)) o (HOK.out _ (HKW1.out.trans (drew_kept W1) (fun _ _ f => f))) (fun hne q e f => by have h4 := HOB.out q hne e; have h5 := ((HT1.out).new q (.inl f)).1; omega) (fun W hk => HT.out W ((HKW1.out.trans (drew_kept W1) (fun _ _ f => f)).more hk (fun i e => ((HT1.out).new i (.inl e)).1))) (by have h4 := (HT1.out).w0; omega))
          unfold OpV.valD at HDC
          clear hdoc
          go_wp2_with fail
          refine wp_region_phase (fun W => CellsW W A wr.heap.size b0 r0 b1 r1 o) (fun _ => false) (by kernel_rfl) HS0 (fun _ => ?_)
          refine wpAnyG_take (i := 0) (v := ?_) rfl (by kernel_rfl) (by kernel_rfl) (by kernel_rfl) (by kernel_rfl) (fun _ _ _ h => h) (Or.inl ⟨by rfl, ?_⟩) HS0 ?_
          rotate_left
          (intro w' hSw'; have ⟨_, _, _, _, _, _, _, _, _⟩ := hSw'; go_simp; try with_reducible rfl)
          try simp only [Act.put, List.setIfInBounds_toArray, List.set_cons_zero, List.set_cons_succ, List.getElem_toArray, List.getElem_cons_zero, List.getElem_cons_succ]
          refine wpAnyG_take (i := 1) (v := ?_) rfl (by kernel_rfl) (by kernel_rfl) (by kernel_rfl) (by kernel_rfl) (fun _ _ _ h => h) (Or.inl ⟨by rfl, ?_⟩) HS0 ?_
          rotate_left
          (intro w' hSw'; have ⟨_, _, _, _, _, _, _, _, _⟩ := hSw'; go_simp; try with_reducible rfl)
          try simp only [Act.put, List.setIfInBounds_toArray, List.set_cons_zero, List.set_cons_succ, List.getElem_toArray, List.getElem_cons_zero, List.getElem_cons_succ]
          refine wpAnyG_take (i := 2) (v := ?_) rfl (by kernel_rfl) (by kernel_rfl) (by kernel_rfl) (by kernel_rfl) (fun _ _ _ h => h) (Or.inl ⟨by rfl, ?_⟩) HS0 ?_
          rotate_left
          (intro w' hSw'; have ⟨_, _, _, _, _, _, _, _, _⟩ := hSw'; go_simp; try with_reducible rfl)
          try simp only [Act.put, List.setIfInBounds_toArray, List.set_cons_zero, List.set_cons_succ, List.getElem_toArray, List.getElem_cons_zero, List.getElem_cons_succ]
          refine wpAnyG_take (i := 3) (v := ?_) rfl (by kernel_rfl) (by kernel_rfl) (by kernel_rfl) (by kernel_rfl) (fun _ _ _ h => h) (Or.inl ⟨by rfl, ?_⟩) HS0 ?_
          rotate_left
          (intro w' hSw'; have ⟨_, _, _, _, _, _, _, _, _⟩ := hSw'; go_simp; try with_reducible rfl)
          try simp only [Act.put, List.setIfInBounds_toArray, List.set_cons_zero, List.set_cons_succ, List.getElem_toArray, List.getElem_cons_zero, List.getElem_cons_succ]
          refine wpAnyG_ready (rs := [4]) (by kernel_rfl) (by simp) ?_
          refine AllG.cons rfl (ph' := false) (by kernel_rfl) (fun K hK => ?_) AllG.nil
          go_simp
          go_at_call 14
          refine HDC.out.mono ?_
          rintro e w3 ⟨rfl, hnx⟩
          obtain ⟨⟨F', D', hT3⟩, hk3⟩ := ((HT1.out).keptX (drew_kept W1) (fun _ e => e.elim)).next (fun q x => by have h4 := HXL.out q x; have h5 := HKW7.out; show q < W1.heap.size; omega) (by have h5 := HKW7.out; show w.heap.size ≤ W1.heap.size; omega) (N' := ((k + 1 : Nat) : Int) * 5000000) (by omega) hnx
          have HKN : Hid (Kept (fun k => w.heap.size ≤ k ∧ g ≠ some k) w7 w3) := Lib.hid ((HKR.out.trans (drew_kept W1) (fun _ _ f => f.elim)).trans hk3 (fun i _ e => ⟨((HT1.out).new i (.inl e)).1, fun x => ((HT1.out).new i (.inl e)).2 (.inr x)⟩))
          have HXN : Hid (∃ b0 r0 F0 D0 b1 r1 F1 D1, w3.heap[A]? = some (.cells #[.pointer (some ⟨b0, 0, none⟩), .pointer (some ⟨r0, 0, none⟩), .pointer (some ⟨b1, 0, none⟩), .pointer (some ⟨r1, 0, none⟩)] 30 (0, 0)) ∧ TwoAt w3 w.heap.size (fun k => k = A ∨ g = some k) (((k + 1 : Nat) : Int) * 5000000) b0 r0 F0 D0 b1 r1 F1 D1) := Lib.hid ⟨_, _, _, _, _, _, _, _, (hk3.block A HAL.out (fun e => ((HT1.out).new A (.inl e)).2 (.inl rfl))).trans ((drew_kept W1).block A HAL.out (fun f => f) |>.trans HCW1.out), hT3.swap⟩
          have HS3 := CellsW.kept HS0 hk3 (fun e => ((HT1.out).new A (.inl e)).2 (.inl rfl)) (fun e => by have h4 := HLT.out _ (.inr e); omega)
          refine hK.out _ _ (fun _ => HS3) ?_
          clear hK K
          try simp only [Act.put, List.setIfInBounds_toArray, List.set_cons_zero, List.set_cons_succ, List.getElem_toArray, List.getElem_cons_zero, List.getElem_cons_succ]
          refine wpAnyG_takeU (i := 5) (v := ?_) rfl (by kernel_rfl) (by kernel_rfl) (by kernel_rfl) (by kernel_rfl) (fun _ _ _ h => h) (Or.inl ⟨by rfl, ?_⟩) (fun _ => HS3) ?_
          rotate_left
          (intro w' hSw'; go_simp; try with_reducible rfl)
          try simp only [Act.put, List.setIfInBounds_toArray, List.set_cons_zero, List.set_cons_succ, List.getElem_toArray, List.getElem_cons_zero, List.getElem_cons_succ]
          refine wpAnyG_done (by kernel_rfl) ?_ _
          clear HS0 HS3 hT3 hk3 hnx HDC
          go_wp2_with fail
          go_roundg (gk - 1)
          case measure => omega
          case rel => exact ⟨k + 1, by omega, by go_num, HXN, HKN⟩
      · have h3b : ((k : Int) % 4 == 3) = false := by simp; omega
        by_cases h6 : (IntKind.u64.wrap o.kind).tmod 9 = 6
        · skip
          have h6b : (6 == 6) = true := rfl
          have HS0 := HSX.out W1.drew (drew_kept W1)
          obtain ⟨dm, de, dc, dfv, dS, dR, hdoc⟩ := (HT0.out).d0
          have HDOC := Lib.hid (hdoc.keptN (drew_kept W1))
          have hz29 : ∀ w, (zeroValue 29).run Tryd.prog w = .ok (.agg #[.pointer none, .pointer none]) w := fun _ => by kernel_rfl
          have hq0 : IntKind.i64.wrap 0 = 0 := by decide
          have hq1 : IntKind.i64.wrap 1 = 1 := by decide
          have HC1 := Lib.hid (copy_any HDOC.out.disk)
          clear hdoc
          go_wp2_with fail
          refine wp_region_phase (fun W => CellsW W A wr.heap.size b0 r0 b1 r1 o) (fun i => i == 14) (by kernel_rfl) HS0 (fun _ => ?_)
          refine wpAnyG_take (i := 0) (v := ?_) rfl (by kernel_rfl) (by kernel_rfl) (by kernel_rfl) (by kernel_rfl) (fun _ _ _ h => h) (Or.inl ⟨by rfl, ?_⟩) HS0 ?_
          rotate_left
          (intro w' hSw'; have ⟨_, _, _, _, _, _, _, _, _⟩ := hSw'; go_simp; try with_reducible rfl)
          try simp only [Act.put, List.setIfInBounds_toArray, List.set_cons_zero, List.set_cons_succ, List.getElem_toArray, List.getElem_cons_zero, List.getElem_cons_succ]
          refine wpAnyG_take (i := 1) (v := ?_) rfl (by kernel_rfl) (by kernel_rfl) (by kernel_rfl) (by kernel_rfl) (fun _ _ _ h => h) (Or.inl ⟨by rfl, ?_⟩) HS0 ?_
          rotate_left
          (intro w' hSw'; have ⟨_, _, _, _, _, _, _, _, _⟩ := hSw'; go_simp; try with_reducible rfl)
          try simp only [Act.put, List.setIfInBounds_toArray, List.set_cons_zero, List.set_cons_succ, List.getElem_toArray, List.getElem_cons_zero, List.getElem_cons_succ]
          refine wpAnyG_take (i := 2) (v := ?_) rfl (by kernel_rfl) (by kernel_rfl) (by kernel_rfl) (by kernel_rfl) (fun _ _ _ h => h) (Or.inl ⟨by rfl, ?_⟩) HS0 ?_
          rotate_left
          (intro w' hSw'; have ⟨_, _, _, _, _, _, _, _, _⟩ := hSw'; go_simp; try with_reducible rfl)
          try simp only [Act.put, List.setIfInBounds_toArray, List.set_cons_zero, List.set_cons_succ, List.getElem_toArray, List.getElem_cons_zero, List.getElem_cons_succ]
          refine wpAnyG_take (i := 3) (v := ?_) rfl (by kernel_rfl) (by kernel_rfl) (by kernel_rfl) (by kernel_rfl) (fun _ _ _ h => h) (Or.inl ⟨by rfl, ?_⟩) HS0 ?_
          rotate_left
          (intro w' hSw'; have ⟨_, _, _, _, _, _, _, _, _⟩ := hSw'; go_simp; try with_reducible rfl)
          try simp only [Act.put, List.setIfInBounds_toArray, List.set_cons_zero, List.set_cons_succ, List.getElem_toArray, List.getElem_cons_zero, List.getElem_cons_succ]
          refine wpAnyG_take (i := 4) (v := ?_) rfl (by kernel_rfl) (by kernel_rfl) (by kernel_rfl) (by kernel_rfl) (fun _ _ _ h => h) (Or.inl ⟨by rfl, ?_⟩) HS0 ?_
          rotate_left
          (intro w' hSw'; have ⟨_, _, _, _, _, _, _, _, _⟩ := hSw'; go_simp; try with_reducible rfl)
          try simp only [Act.put, List.setIfInBounds_toArray, List.set_cons_zero, List.set_cons_succ, List.getElem_toArray, List.getElem_cons_zero, List.getElem_cons_succ]
          refine wpAnyG_take (i := 5) (v := ?_) rfl (by kernel_rfl) (by kernel_rfl) (by kernel_rfl) (by kernel_rfl) (fun _ _ _ h => h) (Or.inl ⟨by rfl, ?_⟩) HS0 ?_
          rotate_left
          (intro w' hSw'; have ⟨_, _, _, _, _, _, _, _, _⟩ := hSw'; go_simp; try with_reducible rfl)
          try simp only [Act.put, List.setIfInBounds_toArray, List.set_cons_zero, List.set_cons_succ, List.getElem_toArray, List.getElem_cons_zero, List.getElem_cons_succ]
          refine wpAnyG_take (i := 7) (v := ?_) rfl (by kernel_rfl) (by kernel_rfl) (by kernel_rfl) (by kernel_rfl) (fun _ _ _ h => h) (Or.inl ⟨by rfl, ?_⟩) HS0 ?_
          rotate_left
          (intro w' hSw'; have ⟨_, _, _, _, _, _, _, _, _⟩ := hSw'; go_simp; try with_reducible rfl)
          try simp only [Act.put, List.setIfInBounds_toArray, List.set_cons_zero, List.set_cons_succ, List.getElem_toArray, List.getElem_cons_zero, List.getElem_cons_succ]
          refine wpAnyG_take (i := 8) (v := ?_) rfl (by kernel_rfl) (by kernel_rfl) (by kernel_rfl) (by kernel_rfl) (fun _ _ _ h => h) (Or.inl ⟨by rfl, ?_⟩) HS0 ?_
          rotate_left
          (intro w' hSw'; have ⟨_, _, _, _, _, _, _, _, _⟩ := hSw'; go_simp; try with_reducible rfl)
          try simp only [Act.put, List.setIfInBounds_toArray, List.set_cons_zero, List.set_cons_succ, List.getElem_toArray, List.getElem_cons_zero, List.getElem_cons_succ]
          refine wpAnyG_take (i := 9) (v := ?_) rfl (by kernel_rfl) (by kernel_rfl) (by kernel_rfl) (by kernel_rfl) (fun _ _ _ h => h) (Or.inl ⟨by rfl, ?_⟩) HS0 ?_
          rotate_left
          (intro w' hSw'; have ⟨_, _, _, _, _, _, _, _, _⟩ := hSw'; go_simp; try with_reducible rfl)
          try simp only [Act.put, List.setIfInBounds_toArray, List.set_cons_zero, List.set_cons_succ, List.getElem_toArray, List.getElem_cons_zero, List.getElem_cons_succ]
          refine wpAnyG_take (i := 10) (v := ?_) rfl (by kernel_rfl) (by kernel_rfl) (by kernel_rfl) (by kernel_rfl) (fun _ _ _ h => h) (Or.inl ⟨by rfl, ?_⟩) HS0 ?_
          rotate_left
          (intro w' hSw'; have ⟨_, _, _, _, _, _, _, _, _⟩ := hSw'; go_simp; try with_reducible rfl)
          try simp only [Act.put, List.setIfInBounds_toArray, List.set_cons_zero, List.set_cons_succ, List.getElem_toArray, List.getElem_cons_zero, List.getElem_cons_succ]
          refine wpAnyG_ready (rs := [6]) (by kernel_rfl) (by simp) ?_
          refine AllG.cons rfl (ph' := false) (by kernel_rfl) (fun K hK => ?_) AllG.nil
          go_simp
          go_at_call 11
          refine HC1.out.mono ?_
          rintro e w2 ⟨b9, m9, e9, c9, f9, rfl, hnd, hsm⟩
          have HS2 := CellsW.kept HS0 hnd.kept (fun f => f) (fun f => f)
          refine hK.out _ _ (fun _ => HS2) ?_
          clear hK K
          try simp only [Act.put, List.setIfInBounds_toArray, List.set_cons_zero, List.set_cons_succ, List.getElem_toArray, List.getElem_cons_zero, List.getElem_cons_succ]
          refine wpAnyG_ready (rs := [11]) (by kernel_rfl) (by simp) ?_
          refine AllG.cons rfl (ph' := false) (by kernel_rfl) (fun K hK => ?_) AllG.nil
          go_simp
          go_at_call 12
          refine (rcopy_any (HDOC.out.ref.kept hnd.kept (fun _ _ f => f))).mono ?_
          rintro e w3 ⟨⟨r9, v9, S9, rfl, hr9, hn9⟩, hk3⟩
          have HS3 := CellsW.kept HS2 hk3 (fun f => f) (fun f => f)
          refine hK.out _ _ (fun _ => HS3) ?_
          clear hK K
          try simp only [Act.put, List.setIfInBounds_toArray, List.set_cons_zero, List.set_cons_succ, List.getElem_toArray, List.getElem_cons_zero, List.getElem_cons_succ]
          have HT9 := Lib.hid (((HT0.out).keptX (drew_kept W1) (fun _ e => e.elim)).copied (fun q x => by have h4 := HXL.out q x; have h5 := HKW7.out; show q < W1.heap.size; omega) (by have h5 := HKW7.out; show w.heap.size ≤ W1.heap.size; omega) (by omega) HDOC.out hnd hsm hr9 hn9 hk3)
          have HKD : Hid (Kept (fun _ => False) W1.drew w3) := Lib.hid (hnd.kept.trans hk3 (fun _ _ f => f))
          refine wpAnyG_ready (rs := [12]) (by kernel_rfl) (by simp) ?_
          refine AllG.cons rfl (ph' := false) (by kernel_rfl) (fun K hK => ?_) AllG.nil
          go_simp
          refine hK.out _ _ (fun _ => HS3) ?_
          clear hK K
          try simp only [Act.put, List.setIfInBounds_toArray, List.set_cons_zero, List.set_cons_succ, List.getElem_toArray, List.getElem_cons_zero, List.getElem_cons_succ]
          refine wpAnyG_takeU (i := 13) (v := ?_) rfl (by kernel_rfl) (by kernel_rfl) (by kernel_rfl) (by kernel_rfl) (fun _ _ _ h => h) (Or.inl ⟨by rfl, ?_⟩) (fun _ => HS3) ?_
          rotate_left
          (intro w' hSw'; go_simp; try with_reducible rfl)
          try simp only [Act.put, List.setIfInBounds_toArray, List.set_cons_zero, List.set_cons_succ, List.getElem_toArray, List.getElem_cons_zero, List.getElem_cons_succ]
          have hcA3 : w3.heap[A]? = some (.cells #[.pointer (some ⟨b0, 0, none⟩), .pointer (some ⟨r0, 0, none⟩), .pointer (some ⟨b1, 0, none⟩), .pointer (some ⟨r1, 0, none⟩)] 30 (0, 0)) := (HKD.out.block A HAL.out (fun f => f)).trans ((drew_kept W1).block A HAL.out (fun f => f) |>.trans HCW1.out)
          have g0 : w3.frozen? ⟨A, 0, none⟩ = false := by simp [World.frozen?, hcA3]
          have g1 : w3.frozen? ⟨A, 1, none⟩ = false := by simp [World.frozen?, hcA3]
          have g2 : w3.frozen? ⟨A, 2, none⟩ = false := by simp [World.frozen?, hcA3]
          have g3 : w3.frozen? ⟨A, 3, none⟩ = false := by simp [World.frozen?, hcA3]
          obtain ⟨z0, z1, z2, z3, z4, z5, z6, z7, z8⟩ := HS3
          refine wpAnyG_ready (rs := [14]) (by kernel_rfl) (by simp) ?_
          refine AllG.cons rfl (ph' := true) (by kernel_rfl) (fun K hK => ?_) AllG.nil
          go_simp
          obtain ⟨w4, hw4⟩ : ∃ W, (w3.setCell ⟨A, 2, none⟩ (.pointer (some ⟨b9, 0, none⟩))).setCell ⟨A, 3, none⟩ (.pointer (some ⟨r9, 0, none⟩)) = W := ⟨_, rfl⟩
          have hcA4 : w4.heap[A]? = some (.cells #[.pointer (some ⟨b0, 0, none⟩), .pointer (some ⟨r0, 0, none⟩), .pointer (some ⟨b9, 0, none⟩), .pointer (some ⟨r9, 0, none⟩)] 30 (0, 0)) := by rw [← hw4]; exact (heap_setCell_row (heap_setCell_row hcA3 _) _).trans rfl
          have hk4 : Kept (· = A) w3 w4 := by rw [← hw4]; exact ((Kept.refl (· = A) w3).setCell (p := ⟨A, 2, none⟩) (fun _ => rfl) _).setCell (p := ⟨A, 3, none⟩) (fun _ => rfl) _
          have hnA : ¬ wr.heap.size = A := by have h4 := HAW.out; omega
          have HT4 := Lib.hid (HT9.out.keptX hk4 (fun k e => .inl (.inl e)))
          have HC4 := Lib.hid hcA4
          have HK4 := Lib.hid hk4
          have p0 : w4.cell? ⟨A, 0, none⟩ = some (.pointer (some ⟨b0, 0, none⟩)) := by simp [World.cell?, hcA4]
          have p1 : w4.cell? ⟨A, 1, none⟩ = some (.pointer (some ⟨r0, 0, none⟩)) := by simp [World.cell?, hcA4]
          have p2 : w4.cell? ⟨A, 2, none⟩ = some (.pointer (some ⟨b9, 0, none⟩)) := by simp [World.cell?, hcA4]
          have p3 : w4.cell? ⟨A, 3, none⟩ = some (.pointer (some ⟨r9, 0, none⟩)) := by simp [World.cell?, hcA4]
          rw [hw4]
          refine hK.out _ _ (fun h => by cases h) ?_
          clear hK K
          try simp only [Act.put, List.setIfInBounds_toArray, List.set_cons_zero, List.set_cons_succ, List.getElem_toArray, List.getElem_cons_zero, List.getElem_cons_succ]
          refine wpAnyG_done (by kernel_rfl) ?_ _
          clear HS0 HS2 hcA4 hk4 hw4 hcA3 g0 g1 g2 g3 z0 z1 z2 z3 z4 z5 z6 z7 z8 hnd hsm hr9 hn9 hk3
          go_wp2_with fail
          obtain ⟨xm, xe, xc, xf, xS, xR, hx9⟩ := HT4.out.d1
          refine (whole_any hx9).mono ?_
          rintro e w5 ⟨rfl, hk5w⟩
          have HKN : Hid (Kept (fun k => w.heap.size ≤ k ∧ g ≠ some k) w7 w5) := Lib.hid ((((HKR.out.trans (drew_kept W1) (fun _ _ f => f.elim)).trans HKD.out (fun _ _ f => f.elim)).trans HK4.out (fun i _ e => by subst e; exact ⟨HAA.out.1, fun x => by have h4 := (HGB.out _ x).1; have h5 := HAA.out.2.1; omega⟩)).trans hk5w (fun _ _ f => f.elim))
          have HXN : Hid (∃ b0 r0 F0 D0 b1 r1 F1 D1, w5.heap[A]? = some (.cells #[.pointer (some ⟨b0, 0, none⟩), .pointer (some ⟨r0, 0, none⟩), .pointer (some ⟨b1, 0, none⟩), .pointer (some ⟨r1, 0, none⟩)] 30 (0, 0)) ∧ TwoAt w5 w.heap.size (fun k => k = A ∨ g = some k) (((k + 1 : Nat) : Int) * 5000000) b0 r0 F0 D0 b1 r1 F1 D1) := Lib.hid ⟨_, _, _, _, _, _, _, _, (hk5w.block A (Array.getElem?_eq_some_iff.1 HC4.out).1 (fun f => f)).trans HC4.out, ((HT4.out.keptX hk5w (fun _ e => e.elim)).mono (by omega))⟩
          clear hx9 hk5w
          go_wp2_with fail
          go_roundg (gk - 1)
          case measure => omega
          case rel => exact ⟨k + 1, by omega, by go_num, HXN, HKN⟩
        · have h6b : ((IntKind.u64.wrap o.kind).tmod 9 == 6) = false := by simp [h6]
          have HS0 := HSX.out W1.drew (drew_kept W1)
          obtain ⟨dm, de, dc, dfv, dS, dR, hdoc⟩ := (HT0.out).d0
          have HDC := Lib.hid (does_any (hdoc.keptN (drew_kept W1)) o (HOK.out _ (HKW1.out.trans (drew_kept W1) (fun _ _ f => f))) (fun hne q e f => by have h4 := HOB.out q hne e; have h5 := ((HT0.out).new q (.inl f)).1; omega) (fun W hk => HT.out W ((HKW1.out.trans (drew_kept W1) (fun _ _ f => f)).more hk (fun i e => ((HT0.out).new i (.inl e)).1))) (by have h4 := (HT0.out).w0; omega))
          unfold OpV.valD at HDC
          clear hdoc
          go_wp2_with fail
          refine wp_region_phase (fun W => CellsW W A wr.heap.size b0 r0 b1 r1 o) (fun _ => false) (by kernel_rfl) HS0 (fun _ => ?_)
          refine wpAnyG_take (i := 0) (v := ?_) rfl (by kernel_rfl) (by kernel_rfl) (by kernel_rfl) (by kernel_rfl) (fun _ _ _ h => h) (Or.inl ⟨by rfl, ?_⟩) HS0 ?_
          rotate_left
          (intro w' hSw'; have ⟨_, _, _, _, _, _, _, _, _⟩ := hSw'; go_simp; try with_reducible rfl)
          try simp only [Act.put, List.setIfInBounds_toArray, List.set_cons_zero, List.set_cons_succ, List.getElem_toArray, List.getElem_cons_zero, List.getElem_cons_succ]
          refine wpAnyG_take (i := 1) (v := ?_) rfl (by kernel_rfl) (by kernel_rfl) (by kernel_rfl) (by kernel_rfl) (fun _ _ _ h => h) (Or.inl ⟨by rfl, ?_⟩) HS0 ?_
          rotate_left
          (intro w' hSw'; have ⟨_, _, _, _, _, _, _, _, _⟩ := hSw'; go_simp; try with_reducible rfl)
          try simp only [Act.put, List.setIfInBounds_toArray, List.set_cons_zero, List.set_cons_succ, List.getElem_toArray, List.getElem_cons_zero, List.getElem_cons_succ]
          refine wpAnyG_take (i := 2) (v := ?_) rfl (by kernel_rfl) (by kernel_rfl) (by kernel_rfl) (by kernel_rfl) (fun _ _ _ h => h) (Or.inl ⟨by rfl, ?_⟩) HS0 ?_
          rotate_left
          (intro w' hSw'; have ⟨_, _, _, _, _, _, _, _, _⟩ := hSw'; go_simp; try with_reducible rfl)
          try simp only [Act.put, List.setIfInBounds_toArray, List.set_cons_zero, List.set_cons_succ, List.getElem_toArray, List.getElem_cons_zero, List.getElem_cons_succ]
          refine wpAnyG_take (i := 3) (v := ?_) rfl (by kernel_rfl) (by kernel_rfl) (by kernel_rfl) (by kernel_rfl) (fun _ _ _ h => h) (Or.inl ⟨by rfl, ?_⟩) HS0 ?_
          rotate_left
          (intro w' hSw'; have ⟨_, _, _, _, _, _, _, _, _⟩ := hSw'; go_simp; try with_reducible rfl)
          try simp only [Act.put, List.setIfInBounds_toArray, List.set_cons_zero, List.set_cons_succ, List.getElem_toArray, List.getElem_cons_zero, List.getElem_cons_succ]
          refine wpAnyG_ready (rs := [4]) (by kernel_rfl) (by simp) ?_
          refine AllG.cons rfl (ph' := false) (by kernel_rfl) (fun K hK => ?_) AllG.nil
          go_simp
          go_at_call 14
          refine HDC.out.mono ?_
          rintro e w3 ⟨rfl, hnx⟩
          obtain ⟨⟨F', D', hT3⟩, hk3⟩ := ((HT0.out).keptX (drew_kept W1) (fun _ e => e.elim)).next (fun q x => by have h4 := HXL.out q x; have h5 := HKW7.out; show q < W1.heap.size; omega) (by have h5 := HKW7.out; show w.heap.size ≤ W1.heap.size; omega) (N' := ((k + 1 : Nat) : Int) * 5000000) (by omega) hnx
          have HKN : Hid (Kept (fun k => w.heap.size ≤ k ∧ g ≠ some k) w7 w3) := Lib.hid ((HKR.out.trans (drew_kept W1) (fun _ _ f => f.elim)).trans hk3 (fun i _ e => ⟨((HT0.out).new i (.inl e)).1, fun x => ((HT0.out).new i (.inl e)).2 (.inr x)⟩))
          have HXN : Hid (∃ b0 r0 F0 D0 b1 r1 F1 D1, w3.heap[A]? = some (.cells #[.pointer (some ⟨b0, 0, none⟩), .pointer (some ⟨r0, 0, none⟩), .pointer (some ⟨b1, 0, none⟩), .pointer (some ⟨r1, 0, none⟩)] 30 (0, 0)) ∧ TwoAt w3 w.heap.size (fun k => k = A ∨ g = some k) (((k + 1 : Nat) : Int) * 5000000) b0 r0 F0 D0 b1 r1 F1 D1) := Lib.hid ⟨_, _, _, _, _, _, _, _, (hk3.block A HAL.out (fun e => ((HT0.out).new A (.inl e)).2 (.inl rfl))).trans ((drew_kept W1).block A HAL.out (fun f => f) |>.trans HCW1.out), hT3⟩
          have HS3 := CellsW.kept HS0 hk3 (fun e => ((HT0.out).new A (.inl e)).2 (.inl rfl)) (fun e => by have h4 := HLT.out _ (.inl e); omega)
          refine hK.out _ _ (fun _ => HS3) ?_
          clear hK K
          try simp only [Act.put, List.setIfInBounds_toArray, List.set_cons_zero, List.set_cons_succ, List.getElem_toArray, List.getElem_cons_zero, List.getElem_cons_succ]
          refine wpAnyG_takeU (i := 5) (v := ?_) rfl (by kernel_rfl) (by kernel_rfl) (by kernel_rfl) (by kernel_rfl) (fun _ _ _ h => h) (Or.inl ⟨by rfl, ?_⟩) (fun _ => HS3) ?_
          rotate_left
          (intro w' hSw'; go_simp; try with_reducible rfl)
          try simp only [Act.put, List.setIfInBounds_toArray, List.set_cons_zero, List.set_cons_succ, List.getElem_toArray, List.getElem_cons_zero, List.getElem_cons_succ]
          refine wpAnyG_done (by kernel_rfl) ?_ _
          clear HS0 HS3 hT3 hk3 hnx HDC
          go_wp2_with fail
          go_roundg (gk - 1)
          case measure => omega
          case rel => exact ⟨k + 1, by omega, by go_num, HXN, HKN⟩
    · have x0 : wr.cell? ⟨A, 0, none⟩ = some (.pointer (some ⟨b0, 0, none⟩)) := by simp [World.cell?, HCW.out]
      have x1 : wr.cell? ⟨A, 1, none⟩ = some (.pointer (some ⟨r0, 0, none⟩)) := by simp [World.cell?, HCW.out]
      have x2 : wr.cell? ⟨A, 2, none⟩ = some (.pointer (some ⟨b1, 0, none⟩)) := by simp [World.cell?, HCW.out]
      have x3 : wr.cell? ⟨A, 3, none⟩ = some (.pointer (some ⟨r1, 0, none⟩)) := by simp [World.cell?, HCW.out]
      clear HCW HK HAA
      go_wp2_with fail
      obtain ⟨xm, xe, xc, xf, xS, xR, hx0⟩ := HT2.out.d0
      refine (whole_any hx0).mono ?_
      rintro e v1 ⟨rfl, hv1⟩
      have HV1 := Lib.hid hv1
      have y0 := hv1.cell x0 (fun f => f)
      have y1 := hv1.cell x1 (fun f => f)
      have y2 := hv1.cell x2 (fun f => f)
      have y3 := hv1.cell x3 (fun f => f)
      clear hx0 x0 x1 x2 x3 hv1
      go_wp2_with fail
      obtain ⟨xm1, xe1, xc1, xf1, xS1, xR1, hx1⟩ := (HT2.out.d1).kept HV1.out (fun _ _ f => f)
      refine (whole_any hx1).mono ?_
      rintro e v2 ⟨rfl, hv2⟩
      clear hx1
      go_wp2_with fail
      refine (wakes02_any v2).mono ?_
      rintro e v3 ⟨rfl, hv3⟩
      have HKV := Lib.hid (((HKW.out.trans HV1.out (fun _ _ f => f)).trans hv2 (fun _ _ f => f)).trans hv3 (fun _ _ f => f))
      clear hv2 hv3
      go_wp2_with fail
      go_ret
      exact ⟨rfl, HKV.out⟩
end Go.Proofs.YtjnhkepgoghogaaDoor
