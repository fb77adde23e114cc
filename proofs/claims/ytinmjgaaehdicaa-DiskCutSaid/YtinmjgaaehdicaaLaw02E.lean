/- espalierlaw02.DiskCut: the walk. -/
import Derived.Test.YtinmjgaaehdicaaLaw02S
import Derived.Test.YtinmjgaaehdicaaLaw02A
namespace Go.Proofs.Ytinmjgaaehdicaa
open Go.RowKit Go.ChangeMaps Go.MapKept

/-- A script in memory, as a row of our own. -/
structure OpsRow (w : World) (v : Value) (g : Option Nat) (ns : List OpV) : Prop where
  form : ∃ a c, v = .slice a ns.length c ∧ ns.length ≤ c ∧ c ≤ maxLen
  at_ : ns = [] ∨ ∃ g' c, g = some g' ∧ g' < w.heap.size ∧ v = .slice (some ⟨g', 0, none⟩) ns.length c ∧ ∀ i x, (flatO ns)[i]? = some x → w.cell? ⟨g', i, none⟩ = some x

theorem OpsRow.of_owns {w : World} {base : Nat} {t : TypeId} {v : Value} {ns : List OpV} (h : w.ownsRow base t 5 v ns.length (flatO ns)) : ∃ g, OpsRow w v g ns ∧ ∀ k, g = some k → base ≤ k := by
  rcases h.2 with ⟨rfl, h0⟩ | ⟨g, cap, cur, rfl, hb, hg, hn, hc, hs, ht⟩
  · have : ns = [] := List.length_eq_zero_iff.1 h0
    subst this
    exact ⟨none, ⟨⟨none, 0, rfl, Nat.le_refl _, by simp [maxLen]⟩, .inl rfl⟩, fun k hk => by cases hk⟩
  · refine ⟨some g, ⟨⟨_, cap, rfl, hn, hc⟩, .inr ⟨g, cap, rfl, (Array.getElem?_eq_some_iff.1 hg).1, rfl, fun i x hx => ?_⟩⟩, fun k hk => by cases hk; exact hb⟩
    rw [cell_of_row w g i cur t (0, 0) hg]
    rw [← ht, List.getElem?_take] at hx
    split at hx
    · simpa using hx
    · cases hx

structure CutSt (w2 : World) (n : Int) (b m b' m' : Nat) (F : Nat → Prop) (cut : Bool) (last : Value) (wr : World) (es : Array MapEntry) (c : Nat) (D : DM) (es' : Array MapEntry) (c' : Nat) (E : DM) : Prop where
  d : DiskAt wr b m es c D
  e : DiskAt wr b' m' es' c' E
  kept : Kept F w2 wr
  fd : ∀ i, diskF b m es i → F i ∨ w2.heap.size ≤ i
  fe : ∀ i, diskF b' m' es' i → F i ∨ w2.heap.size ≤ i
  apart : ∀ i, diskF b m es i → ¬ diskF b' m' es' i
  dc : D.cut = false
  ec : E.cut = true
  sum : E.writes + E.left = n
  is : (cut = false ∧ DM.Same D E ∧ D.writes = E.writes) ∨
    (cut = true ∧ E.left = 0 ∧ ∃ b3 m3 es3 c3 L, last = .pointer (some ⟨b3, 0, none⟩) ∧ DiskAt wr b3 m3 es3 c3 L ∧ DM.Same E L ∧ ∀ i, diskF b3 m3 es3 i → ¬ diskF b' m' es' i)

theorem InOps.kept {w w' : World} {a : Option Addr} {n c : Nat} {l : List OpV} (h : InOps w a n c l) (hk : Kept (fun _ => False) w w') : InOps w' a n c l := by
  refine ⟨h.len, h.le, h.cap, ?_, fun o ho => ?_⟩
  · rcases h.at_ with h0 | ⟨g, o, ha, hc⟩
    · exact .inl h0
    · exact .inr ⟨g, o, ha, fun i x hx => hk.cell (hc i x hx) (fun h => h)⟩
  · obtain ⟨h1, h2⟩ := h.ok o ho
    exact ⟨h1.keptF hk (fun _ _ h => h), h2⟩

theorem InOps.short {w : World} {a : Option Addr} {n c : Nat} {l : List OpV} (h : InOps w a n c l) : ∀ o ∈ (l.take 60).map OpV.short, IsB w o.bv o.bytes ∧ o.name.size ≤ maxLen ∧ o.to.size ≤ maxLen := by
  intro o ho
  obtain ⟨q, hq, rfl⟩ := List.mem_map.1 ho
  obtain ⟨h1, h2, h3, -⟩ := h.ok q (List.mem_of_mem_take hq)
  unfold OpV.short
  split
  · have hle : (q.bytes.take 300).length ≤ q.bytes.length := by rw [List.length_take]; omega
    have := (bytes_high h1 hle).2
    have he : q.bytes.take (q.bytes.take 300).length = q.bytes.take 300 := by rw [List.length_take, ← List.take_take]; simp
    rw [he] at this
    exact ⟨this, h2, h3⟩
  · exact ⟨h1, h2, h3⟩

theorem step_is {w : World} {b m : Nat} {es : Array MapEntry} {clock : Nat} {D : DM} (h : DiskAt w b m es clock D) (o : OpV) {x : Int} {D' : DM} (hq : D.step o = (x, D')) (hv : IsB w o.bv o.bytes) (hsn : o.name.size ≤ maxLen) (hst : o.to.size ≤ maxLen)
    (hsep : o.bytes ≠ [] → ∀ g, o.bv.ownBlock = some g → ¬ diskF b m es g) (hw : D.writes < 2305843009213693952) :
    Calls Try.prog 20 #[.pointer (some ⟨b, 0, none⟩), .agg #[.int .i64 o.kind, .string o.name, .string o.to, .int .i64 o.n, .slice o.ba o.bytes.length o.bc]] w (EndD w b m es x D') := by
  have := step_any h o hv hsn hst hsep hw
  rw [hq] at this
  exact this

theorem box_kept {F : Nat → Prop} {w w' : World} {B : Nat} {o : OpV} (hk : Kept F w w') (hB : ¬ F B)
    (h : w.cell? ⟨B, 0, none⟩ = some (.int .i64 o.kind) ∧ w.cell? ⟨B, 1, none⟩ = some (.string o.name) ∧ w.cell? ⟨B, 2, none⟩ = some (.string o.to) ∧ w.cell? ⟨B, 3, none⟩ = some (.int .i64 o.n) ∧ w.cell? ⟨B, 4, none⟩ = some (.slice o.ba o.bytes.length o.bc)) :
    w'.cell? ⟨B, 0, none⟩ = some (.int .i64 o.kind) ∧ w'.cell? ⟨B, 1, none⟩ = some (.string o.name) ∧ w'.cell? ⟨B, 2, none⟩ = some (.string o.to) ∧ w'.cell? ⟨B, 3, none⟩ = some (.int .i64 o.n) ∧ w'.cell? ⟨B, 4, none⟩ = some (.slice o.ba o.bytes.length o.bc) :=
  ⟨hk.cell h.1 hB, hk.cell h.2.1 hB, hk.cell h.2.2.1 hB, hk.cell h.2.2.2.1 hB, hk.cell h.2.2.2.2 hB⟩

/-- Two disks in step, in a world in which more lies. -/
theorem CutSt.more {w2 : World} {n : Int} {b m b' m' : Nat} {F : Nat → Prop} {cut : Bool} {last : Value} {wr wr' : World} {es : Array MapEntry} {c : Nat} {D : DM} {es' : Array MapEntry} {c' : Nat} {E : DM}
    (h : CutSt w2 n b m b' m' F cut last wr es c D es' c' E) (hk : Kept (fun _ => False) wr wr') : CutSt w2 n b m b' m' F cut last wr' es c D es' c' E := by
  refine ⟨h.d.kept hk (fun _ _ h => h), h.e.kept hk (fun _ _ h => h), h.kept.trans hk (fun _ _ h => h.elim), h.fd, h.fe, h.apart, h.dc, h.ec, h.sum, ?_⟩
  rcases h.is with h0 | ⟨h1, h2, b3, m3, es3, c3, L, h3, h4, h5, h6⟩
  · exact .inl h0
  · exact .inr ⟨h1, h2, b3, m3, es3, c3, L, h3, h4.kept hk (fun _ _ h => h), h5, h6⟩

/-- Both disks took a step. -/
theorem CutSt.both {w2 : World} {n : Int} {b m b' m' : Nat} {F : Nat → Prop} {cut cut' : Bool} {last last' : Value} {wr w6 w7 : World} {es es6 : Array MapEntry} {c c6 : Nat} {D D' : DM} {es' es7 : Array MapEntry} {c' c7 : Nat} {E E' : DM}
    (h : CutSt w2 n b m b' m' F cut last wr es c D es' c' E) (hA : DiskAfter wr b m es D' w6 es6 c6) (hB : DiskAfter w6 b' m' es' E' w7 es7 c7) (hdc : D'.cut = false) (hec : E'.cut = true) (hsum : E'.writes + E'.left = n)
    (his : (cut' = false ∧ DM.Same D' E' ∧ D'.writes = E'.writes) ∨ (cut' = true ∧ E'.left = 0 ∧ ∃ b3 m3 es3 c3 L, last' = .pointer (some ⟨b3, 0, none⟩) ∧ DiskAt w7 b3 m3 es3 c3 L ∧ DM.Same E' L ∧ ∀ i, diskF b3 m3 es3 i → ¬ diskF b' m' es7 i)) :
    CutSt w2 n b m b' m' F cut' last' w7 es6 c6 D' es7 c7 E' := by
  have hlD := h.d.lt
  have hlE := h.e.lt
  have h1 := hA.kept.size
  have h2 := h.kept.size
  have hl6 := hA.disk.lt
  have hdE : ∀ i, diskF b m es6 i → ¬ diskF b' m' es' i := by
    intro i hi hi'
    rcases hA.foot i hi with hf | hf
    · exact h.apart i hf hi'
    · have := hlE i hi'; omega
  refine ⟨hA.disk.kept hB.kept hdE, hB.disk, (h.kept.trans hA.kept ?_).trans hB.kept ?_, ?_, ?_, ?_, hdc, hec, hsum, his⟩
  · intro i hi hf
    rcases h.fd i hf with h5 | h5
    · exact h5
    · omega
  · intro i hi hf
    rcases h.fe i hf with h5 | h5
    · exact h5
    · omega
  · intro i hi
    rcases hA.foot i hi with hf | hf
    · exact h.fd i hf
    · exact .inr (by omega)
  · intro i hi
    rcases hB.foot i hi with hf | hf
    · exact h.fe i hf
    · exact .inr (by omega)
  · intro i hi hi'
    rcases hB.foot i hi' with hf | hf
    · exact hdE i hi hf
    · have := hl6 i hi; omega

theorem DiskAfter.ahead {w w1 w2 : World} {b m : Nat} {es es1 : Array MapEntry} {c1 : Nat} {D1 : DM} (hk : Kept (fun _ => False) w w1) (hA : DiskAfter w1 b m es D1 w2 es1 c1) : DiskAfter w b m es D1 w2 es1 c1 :=
  ⟨hA.disk, fun k hf => (hA.foot k hf).imp_right (fun hle => Nat.le_trans hk.size hle), Kept.trans (hk.mono (fun _ _ hf => hf.elim)) hA.kept fun _ _ hf => hf⟩

theorem isB_new1 (w : World) : IsB (w.alloc (.cells #[.int .u8 1] 5)) (.slice (some ⟨w.heap.size, 0, none⟩) 1 1) [1] := by
  refine ⟨_, _, rfl, by simp, by simp [maxLen], .inr ⟨w.heap.size, 0, rfl, by simp, fun i x hx => ?_⟩⟩
  rw [Nat.zero_add, World.cell?_alloc_new]
  simpa [bytesV] using hx



set_option maxRecDepth 100000 in
set_option maxHeartbeats 8000000 in
theorem cut_law (w : World) (a : Option Addr) (c : Nat) (l : List OpV) (h : InOps w a l.length c l) (n : Int) (hn1 : -9223372036854775808 ≤ n) (hn2 : n ≤ 9223372036854775807) :
    Calls Try.prog 4 #[.slice a l.length c, .int .i64 n] w fun e w' => e = .returned (.bool true) ∧ Kept (fun _ => False) w w' := by
  have hSB : ∀ o ∈ (l.take 60).map OpV.short, o.bytes ≠ [] → ∀ g, o.bv.ownBlock = some g → g < w.heap.size := fun o ho hne g hg => (h.short o ho).1.block_lt hne g hg
  go_enter Try.func4, Try.ntmps4
  go_wp2_with fail
  refine (wakes02_any w).mono ?_
  rintro e w1 ⟨rfl, hk1⟩
  obtain ⟨p, hp0, hp63, hpe⟩ : ∃ p : Int, 0 ≤ p ∧ p < 64 ∧ (if n < 0 then -(n+1) else n).tmod 64 = p := by
    refine ⟨_, ?_, ?_, rfl⟩
    · split
      · exact Int.tmod_nonneg _ (by omega)
      · exact Int.tmod_nonneg _ (by omega)
    · split
      · rw [Int.tmod_eq_emod_of_nonneg (by omega)]; omega
      · rw [Int.tmod_eq_emod_of_nonneg (by omega)]; omega
  have hk1S := hk1.size
  by_cases hneg : n < 0
  · rw [if_pos hneg] at hpe
    go_wp2_with fail
    refine (new_any w1).mono ?_
    rintro e w2 ⟨b, m, rfl, hb, hm, hd, hk2⟩
    go_wp2_with fail
    refine (new_any w2).mono ?_
    rintro e w3 ⟨b', m', rfl, hb', hm', hd', hk3⟩
    have hd3 := hd.kept hk3 (fun _ _ h => h)
    have hF2 : ∀ i, diskF b m #[] i → w1.heap.size ≤ i := by
      rintro k (rfl | rfl | ⟨e, he, _⟩)
      · exact hb
      · exact hm
      · simp at he
    have hF3 : ∀ i, diskF b' m' #[] i → w2.heap.size ≤ i := by
      rintro k (rfl | rfl | ⟨e, he, _⟩)
      · exact hb'
      · exact hm'
      · simp at he
    have hlt2 : ∀ i, diskF b m #[] i → i < w2.heap.size := hd.lt
    have hlt3 : ∀ i, diskF b' m' #[] i → i < w3.heap.size := hd'.lt
    have hk2S := hk2.size
    have hk3S := hk3.size
    go_wp2_with fail
    refine (cut_any hd' p hp0 (by omega)).mono ?_
    rintro e w4 ⟨rfl, hd4', hk4⟩
    have hd4 := hd3.kept hk4 (fun k hf e => by have := hlt2 k hf; omega)
    have hk4S := hk4.size
    have hk14 : Kept (fun _ => False) w w4 := (((hk1.more hk2 (fun _ h => h.elim)).more hk3 (fun _ h => h.elim))).more hk4 (fun i e => by omega)
    have hops4 := h.kept hk14
    have hlt4 : ∀ i, diskF b' m' #[] i → i < w4.heap.size := hd4'.lt
    go_wp2_with fail
    refine (script_any w4 a c l hops4).mono ?_
    rintro e w5 ⟨v, rfl, hown, hk5⟩
    have hok0 := hops4.short
    generalize (l.take 60).map OpV.short = ns at *
    obtain ⟨gr, hrow, hgr⟩ := OpsRow.of_owns hown
    obtain ⟨va, vc, rfl, hvc1, hvc2⟩ := hrow.form
    have hnl : ns.length ≤ 9223372036854775807 := by have h1 := hvc2; unfold maxLen at h1; omega
    have hk15 : Kept (fun _ => False) w w5 := hk14.more hk5 (fun _ h => h.elim)
    have hk5S := hk5.size
    obtain ⟨F, hFe⟩ : ∃ F : Nat → Prop, F = fun i => diskF b m #[] i ∨ diskF b' m' #[] i := ⟨_, rfl⟩
    have hst0 : CutSt w5 p b m b' m' F false (.pointer none) w5 #[] 0 ⟨[], 0, 0, false⟩ #[] 0 (DM.cutAt ⟨[], 0, 0, false⟩ p) := by
      rw [hFe]
      exact ⟨hd4.kept hk5 (fun _ _ h => h), hd4'.kept hk5 (fun _ _ h => h), Kept.refl _ _, fun i hi => .inl (.inl hi), fun i hi => .inl (.inr hi), fun i hi hi' => by have h1 := hlt2 i hi; have h2 := hF3 i hi'; omega, rfl, rfl, by simp [DM.cutAt], .inl ⟨rfl, ⟨fun _ => rfl, rfl⟩, rfl⟩⟩
    have hFw : ∀ i, F i → w.heap.size ≤ i ∧ i < w4.heap.size := by
      rw [hFe]
      rintro i (hi | hi)
      · have h1 := hF2 i hi; have h2 := hlt2 i hi; omega
      · have h1 := hF3 i hi; have h2 := hlt4 i hi; omega
    have hopw : ∀ o ∈ ns, o.bytes ≠ [] → ∀ g, o.bv.ownBlock = some g → g < w.heap.size := hSB
    clear hd hd' hd3 hd4 hd4' hF2 hF3 hlt2 hlt3 hlt4 hown hops4 hk2 hk3 hk4 hb hm hb' hm' hk1 hFe
    go_wp2_with fail
    go_loopw [45, 7, 8] (fun i cv lv wr => ∃ (k : Nat) (cut : Bool) (es : Array MapEntry) (c : Nat) (D : DM) (es' : Array MapEntry) (c' : Nat) (E : DM), k ≤ ns.length ∧ i = .int .i64 k ∧ cv = .bool cut ∧ CutSt w5 p b m b' m' F cut lv wr es c D es' c' E) (fun i _ _ _ => ns.length - (intOf i).toNat)
    case atStart => exact ⟨0, false, #[], 0, _, #[], 0, _, Nat.zero_le _, rfl, rfl, hst0⟩
    case round =>
      obtain ⟨k, cut, es, c, D, es', c', E, hkn, rfl, rfl, hst⟩ := hrel
      by_cases hlt : k < ns.length
      · obtain ⟨o, ho⟩ : ∃ o, ns[k] = o := ⟨_, rfl⟩
        have hne : ns ≠ [] := fun e => by rw [e] at hlt; simp at hlt
        obtain ⟨g, vc', hgs, hglt, hvv, hcells⟩ := hrow.at_.resolve_left hne
        obtain ⟨rfl, rfl⟩ : va = some ⟨g, 0, none⟩ ∧ vc = vc' := by simpa using hvv
        have hgF : ¬ F g := fun hf => by have h1 := (hFw g hf).2; have h2 := hgr g hgs; omega
        have hc0 : wr.cell? ⟨g, k * 5, none⟩ = some (.int .i64 o.kind) := hst.kept.cell (hcells (k * 5) _ (by have := flatO_get ns k 0 hlt (by omega); rw [ho] at this; exact this)) hgF
        have hc1 : wr.cell? ⟨g, k * 5 + 1, none⟩ = some (.string o.name) := hst.kept.cell (hcells (k * 5 + 1) _ (by have := flatO_get ns k 1 hlt (by omega); rw [ho] at this; exact this)) hgF
        have hc2 : wr.cell? ⟨g, k * 5 + 2, none⟩ = some (.string o.to) := hst.kept.cell (hcells (k * 5 + 2) _ (by have := flatO_get ns k 2 hlt (by omega); rw [ho] at this; exact this)) hgF
        have hc3 : wr.cell? ⟨g, k * 5 + 3, none⟩ = some (.int .i64 o.n) := hst.kept.cell (hcells (k * 5 + 3) _ (by have := flatO_get ns k 3 hlt (by omega); rw [ho] at this; exact this)) hgF
        have hc4 : wr.cell? ⟨g, k * 5 + 4, none⟩ = some (.slice o.ba o.bytes.length o.bc) := hst.kept.cell (hcells (k * 5 + 4) _ (by have := flatO_get ns k 4 hlt (by omega); rw [ho] at this; exact this)) hgF
        have hom : o ∈ ns := by rw [← ho]; exact List.getElem_mem _
        obtain ⟨hoB, hosn, host⟩ := hok0 o hom
        have hoS := hopw o hom
        clear hcells hvv hrow
        obtain ⟨wA, hwA, hkA, hszA, hcA⟩ : ∃ wA, wr.alloc (.cells #[.int .i64 o.kind, .string o.name, .string o.to, .int .i64 o.n, .slice o.ba o.bytes.length o.bc] 38) = wA ∧ Kept (fun _ => False) wr wA ∧ wA.heap.size = wr.heap.size + 1 ∧ ∀ j u, o.cells[j]? = some u → wA.cell? ((⟨wr.heap.size, 0, none⟩ : Addr).add j) = some u :=
          ⟨_, rfl, (Kept.refl _ _).alloc _, by simp, fun j u hu => by rw [addr_add, Nat.zero_add, World.cell?_alloc_new]; simpa [OpV.cells] using hu⟩
        have hA0 : wA.cell? ⟨wr.heap.size, 0, none⟩ = some (.int .i64 o.kind) := by have := hcA 0 (.int .i64 o.kind) rfl; simpa [addr_add] using this
        have hA1 : wA.cell? ⟨wr.heap.size, 1, none⟩ = some (.string o.name) := by have := hcA 1 (.string o.name) rfl; simpa [addr_add] using this
        have hA2 : wA.cell? ⟨wr.heap.size, 2, none⟩ = some (.string o.to) := by have := hcA 2 (.string o.to) rfl; simpa [addr_add] using this
        have hA3 : wA.cell? ⟨wr.heap.size, 3, none⟩ = some (.int .i64 o.n) := by have := hcA 3 (.int .i64 o.n) rfl; simpa [addr_add] using this
        have hA4 : wA.cell? ⟨wr.heap.size, 4, none⟩ = some (.slice o.ba o.bytes.length o.bc) := by have := hcA 4 (.slice o.ba o.bytes.length o.bc) rfl; simpa [addr_add] using this
        clear hcA
        have hstA := hst.more hkA
        have hltD : ∀ i, diskF b m es i → i < wr.heap.size := hst.d.lt
        have hltE : ∀ i, diskF b' m' es' i → i < wr.heap.size := hst.e.lt
        go_wp2_with fail
        refine (writes_any hstA.e).mono ?_
        rintro e w' ⟨rfl, rfl⟩
        have hoB5 : IsB wA o.bv o.bytes := ((hoB.keptF hk5 (fun _ _ h => h)).keptS hst.kept (fun hne g hg hf => by have h1 := hoS hne g hg; have h2 := (hFw g hf).1; omega)).keptF hkA (fun _ _ h => h)
        have hfD : ∀ i, diskF b m es i → w.heap.size ≤ i := by
          intro i hi
          rcases hst.fd i hi with hf | hf
          · exact (hFw i hf).1
          · omega
        have hfE : ∀ i, diskF b' m' es' i → w.heap.size ≤ i := by
          intro i hi
          rcases hst.fe i hi with hf | hf
          · exact (hFw i hf).1
          · omega
        have hsepD : o.bytes ≠ [] → ∀ g, o.bv.ownBlock = some g → ¬ diskF b m es g := fun hne g hg hf => by have h1 := hoS hne g hg; have h2 := hfD g hf; omega
        have hsepE : o.bytes ≠ [] → ∀ g, o.bv.ownBlock = some g → ¬ diskF b' m' es' g := fun hne g hg hf => by have h1 := hoS hne g hg; have h2 := hfE g hf; omega
        have HSUM := Lib.hid hstA.sum
        have hEl := hstA.e.ok.l0
        have hEw := hstA.e.ok.w0
        have hElim : E.writes < 2305843009213693952 := by have := HSUM.out; omega
        have hbD : ¬ diskF b m es wr.heap.size := fun hf => by have := hltD _ hf; omega
        have hbE : ¬ diskF b' m' es' wr.heap.size := fun hf => by have := hltE _ hf; omega
        cases cut with
        | false =>
          obtain ⟨hSame, HDE⟩ : DM.Same D E ∧ Hid (D.writes = E.writes) := by
            rcases hstA.is with ⟨-, h1, h2⟩ | ⟨h1, -⟩
            · exact ⟨h1, h2⟩
            · cases h1
          have hrel := step_cut o D E hSame hstA.dc hstA.ec hEl hstA.d.ok.nodup hstA.e.ok.nodup
          have hDlim : D.writes < 2305843009213693952 := by have := HDE.out; have := HSUM.out; omega
          obtain ⟨⟨x, D'⟩, hqD⟩ : ∃ q, D.step o = q := ⟨_, rfl⟩
          obtain ⟨⟨y, E'⟩, hqE⟩ : ∃ q, E.step o = q := ⟨_, rfl⟩
          rw [hqD, hqE] at hrel
          have HQD := Lib.hid hqD
          have HQE := Lib.hid hqE
          clear hqD hqE
          have hDd := hstA.d.kept (drew_kept wA) (fun _ _ h => h)
          have hEd := hstA.e.kept (drew_kept wA) (fun _ _ h => h)
          have hoBd := hoB5.keptF (drew_kept wA) (fun _ _ h => h)
          have hnd : ∀ i, diskF b' m' es' i → ¬ diskF b m es i := fun i hi hi' => hst.apart i hi' hi
          obtain ⟨hrc, hsc, hup, hquiet, hsm, hsl, his⟩ := hrel
          have HSM : Hid (E'.writes + E'.left = p) := Lib.hid (hsm.trans HSUM.out)
          clear hsm hquiet
          rcases his with ⟨g1, g2, g3, g4⟩ | ⟨g1, g2, g3, g4, g5⟩
          · simp only at g1 g2 g3 g4 hup hrc hsc hsl
            subst g2
            have hle : D'.writes ≤ p := by have := HDE.out; have := HSUM.out; omega
            have hwe : D'.writes = E'.writes := by have := HDE.out; omega
            have HWE := Lib.hid hwe
            clear g4 hwe
            go_wp2_with fail
            go_region_held3 (fun w' => w'.cell? ⟨wr.heap.size, 0, none⟩ = some (.int .i64 o.kind) ∧ w'.cell? ⟨wr.heap.size, 1, none⟩ = some (.string o.name) ∧ w'.cell? ⟨wr.heap.size, 2, none⟩ = some (.string o.to) ∧ w'.cell? ⟨wr.heap.size, 3, none⟩ = some (.int .i64 o.n) ∧ w'.cell? ⟨wr.heap.size, 4, none⟩ = some (.slice o.ba o.bytes.length o.bc))
              (first | exact box_kept hA7.kept hbE (box_kept hA6.kept hbD ⟨hA0, hA1, hA2, hA3, hA4⟩) | exact box_kept hA6.kept hbD ⟨hA0, hA1, hA2, hA3, hA4⟩ | exact ⟨hA0, hA1, hA2, hA3, hA4⟩)
              ((first | (go_at_call 20; refine (step_is (hEd.kept hA6.kept hnd) o HQE.out (hoBd.keptS hA6.kept hsepD) hosn host hsepE hElim).mono ?_; rintro e' w7 ⟨rfl, es7, c7, hA7⟩) | (go_at_call 20; refine (step_is hDd o HQD.out hoBd hosn host hsepD hDlim).mono ?_; rintro e' w6 ⟨rfl, es6, c6, hA6⟩)))
            have hS7 := hstA.both (cut' := false) (last' := u8) (hA6.ahead (drew_kept wA)) hA7 hrc hsc HSM.out (.inl ⟨rfl, g3, HWE.out⟩)
            go_wp2_with fail
            refine (writes_any hS7.d).mono ?_
            rintro e w8 ⟨rfl, rfl⟩
            go_wp2_with fail
            refine (alike_any hS7.d hS7.e g3).mono ?_
            rintro e w8 ⟨rfl, hk8⟩
            have hS8 := hS7.more hk8
            have hwe := HWE.out
            go_wp2_with fail
            refine (writes_any hS8.d).mono ?_
            rintro e w9 ⟨rfl, rfl⟩
            go_wp2_with fail
            refine (writes_any hS8.e).mono ?_
            rintro e w9 ⟨rfl, rfl⟩
            clear hwe
            go_wp2_with fail
            go_roundw
            case rel => exact ⟨k + 1, false, _, _, _, _, _, _, by omega, by go_num, rfl, hS8⟩
            case measure => simp [intOf]; omega
          · simp only at g1 g2 g3 g4 g5 hup hrc hsc hsl
            subst g2
            subst g3
            have hle : ¬ D'.writes ≤ p := by have := HDE.out; have := HSUM.out; omega
            have hwp : E'.writes = p := by have := HSUM.out; omega
            have HWP := Lib.hid hwp
            clear g4 g5 hwp
            go_wp2_with fail
            go_region_held3 (fun w' => w'.cell? ⟨wr.heap.size, 0, none⟩ = some (.int .i64 o.kind) ∧ w'.cell? ⟨wr.heap.size, 1, none⟩ = some (.string o.name) ∧ w'.cell? ⟨wr.heap.size, 2, none⟩ = some (.string o.to) ∧ w'.cell? ⟨wr.heap.size, 3, none⟩ = some (.int .i64 o.n) ∧ w'.cell? ⟨wr.heap.size, 4, none⟩ = some (.slice o.ba o.bytes.length o.bc))
              (first | exact box_kept hA7.kept hbE (box_kept hA6.kept hbD ⟨hA0, hA1, hA2, hA3, hA4⟩) | exact box_kept hA6.kept hbD ⟨hA0, hA1, hA2, hA3, hA4⟩ | exact ⟨hA0, hA1, hA2, hA3, hA4⟩)
              ((first | (go_at_call 20; refine (step_is (hEd.kept hA6.kept hnd) o HQE.out (hoBd.keptS hA6.kept hsepD) hosn host hsepE hElim).mono ?_; rintro e' w7 ⟨rfl, es7, c7, hA7⟩) | (go_at_call 20; refine (step_is hDd o HQD.out hoBd hosn host hsepD hDlim).mono ?_; rintro e' w6 ⟨rfl, es6, c6, hA6⟩)))
            have hd7 := hA7.disk
            have hd6 : DiskAt w7 b m es6 c6 D' := hA6.disk.kept hA7.kept (fun i hi hi' => by
              rcases hA6.foot i hi with hf | hf
              · exact hst.apart i hf hi'
              · have h1 := hltE i hi'; have h2 := hkA.size; have h3 := (drew_kept wA).size; omega)
            go_wp2_with fail
            refine (writes_any hd6).mono ?_
            rintro e w8 ⟨rfl, rfl⟩
            have hwp := HWP.out
            go_wp2_with fail
            refine (writes_any hd7).mono ?_
            rintro e w8 ⟨rfl, rfl⟩
            go_wp2_with fail
            clear hwp
            refine (copy_any hd7).mono ?_
            rintro e w8 ⟨b3, m3, es3, c3, files3, rfl, hN, hSN⟩
            have hlt7 : ∀ i, diskF b' m' es7 i → i < w7.heap.size := hd7.lt
            have hS8 := hstA.both (cut' := true) (last' := .pointer (some ⟨b3, 0, none⟩)) (hA6.ahead (drew_kept wA)) (hA7.after hN.kept) hrc hsc HSM.out (.inr ⟨rfl, by have := HSM.out; have := HWP.out; omega, b3, m3, es3, c3, _, rfl, hN.disk, hSN.symm, fun i hi hi' => by have h1 := hN.new i hi; have h2 := hlt7 i hi'; omega⟩)
            go_wp2_with fail
            go_roundw
            case rel => exact ⟨k + 1, true, _, _, _, _, _, _, by omega, by go_num, rfl, hS8⟩
            case measure => simp [intOf]; omega
        | true =>
          obtain ⟨hl0, b3, m3, es3, c3, L, hlv, hdL, hSL, hapL⟩ : E.left = 0 ∧ ∃ b3 m3 es3 c3 L, u8 = .pointer (some ⟨b3, 0, none⟩) ∧ DiskAt wA b3 m3 es3 c3 L ∧ DM.Same E L ∧ ∀ i, diskF b3 m3 es3 i → ¬ diskF b' m' es' i := by
            rcases hstA.is with ⟨h1, -⟩ | ⟨-, h2⟩
            · cases h1
            · exact h2
          subst hlv
          have HL0 := Lib.hid hl0
          clear hl0
          go_wp2_with fail
          refine (copy_any hstA.e).mono ?_
          rintro e w6 ⟨b6, m6, es6, c6, files6, rfl, hN, hSN⟩
          obtain ⟨⟨z, P'⟩, hqP⟩ : ∃ q, DM.step ⟨files6, 0, 0, false⟩ o = q := ⟨_, rfl⟩
          obtain ⟨⟨y, E'⟩, hqE⟩ : ∃ q, E.step o = q := ⟨_, rfl⟩
          have hrel := step_cut o _ E hSN rfl hstA.ec hEl hN.disk.ok.nodup hstA.e.ok.nodup
          rw [hqP, hqE] at hrel
          obtain ⟨hstay1, hstay2⟩ := hrel.stays hSN HL0.out
          have HQP := Lib.hid hqP
          have HQE := Lib.hid hqE
          clear hqP hqE
          obtain ⟨hrc, hsc, hup, hquiet, hsm, hsl, his⟩ := hrel
          have HSM : Hid (E'.writes + E'.left = p) := Lib.hid (hsm.trans HSUM.out)
          have HWE : Hid (E'.writes = E.writes) := Lib.hid hstay2
          clear hsm hquiet hstay2
          have hb6 := box_kept hN.kept (fun h => h) ⟨hA0, hA1, hA2, hA3, hA4⟩
          obtain ⟨h60, h61, h62, h63, h64⟩ := id hb6
          have hltA : ∀ i, diskF b' m' es' i → i < wA.heap.size := hstA.e.lt
          have hltL : ∀ i, diskF b3 m3 es3 i → i < wA.heap.size := hdL.lt
          have hltDA : ∀ i, diskF b m es i → i < wA.heap.size := hstA.d.lt
          have hN6S := hN.kept.size
          have hoB6 := hoB5.keptF hN.kept (fun _ _ h => h)
          have hwwA : w.heap.size ≤ wA.heap.size := by have h1 := hk15.size; have h2 := hst.kept.size; have h3 := hkA.size; omega
          have hsep6 : o.bytes ≠ [] → ∀ g, o.bv.ownBlock = some g → ¬ diskF b6 m6 es6 g := fun hne g hg hf => by have h1 := hoS hne g hg; have h2 := hN.new g hf; omega
          have hnb6 : ¬ diskF b6 m6 es6 wr.heap.size := fun hf => by have h2 := hN.new _ hf; omega
          go_wp2_with fail
          refine (step_is hN.disk o HQP.out hoB6 hosn host hsep6 (by simp)).mono ?_
          rintro e w7 ⟨rfl, es7, c7, hA7⟩
          have hd7 : DiskAt w7 b' m' es' c' E := (hstA.e.kept hN.kept (fun _ _ h => h)).kept hA7.kept (fun i hi hi' => by have h1 := hltA i hi; have h2 := hN.new i hi'; omega)
          have hb7 := box_kept hA7.kept hnb6 hb6
          obtain ⟨h70, h71, h72, h73, h74⟩ := id hb7
          have hoB7 := hoB6.keptS hA7.kept hsep6
          go_wp2_with fail
          refine (step_is hd7 o HQE.out hoB7 hosn host hsepE hElim).mono ?_
          rintro e w8 ⟨rfl, es8, c8, hA8⟩
          have hf8 : ∀ i, diskF b' m' es8 i → diskF b' m' es' i ∨ w6.heap.size ≤ i := fun i hi => (hA8.foot i hi).imp_right (fun h => Nat.le_trans hA7.kept.size h)
          have hL8 : DiskAt w8 b3 m3 es3 c3 L := ((hdL.kept hN.kept (fun _ _ h => h)).kept hA7.kept (fun i hi hi' => by have h1 := hltL i hi; have h2 := hN.new i hi'; omega)).kept hA8.kept hapL
          have hP8 : DiskAt w8 b6 m6 es7 c7 P' := hA7.disk.kept hA8.kept (fun i hi hi' => by
            have h1 := hltA i hi'
            rcases hA7.foot i hi with h2 | h2
            · have := hN.new i h2; omega
            · omega)
          have hD8 : DiskAt w8 b m es c D := ((hstA.d.kept hN.kept (fun _ _ h => h)).kept hA7.kept (fun i hi hi' => by have h1 := hltDA i hi; have h2 := hN.new i hi'; omega)).kept hA8.kept hstA.apart
          have hK8 : Kept F w5 w8 := ((hstA.kept.trans hN.kept (fun _ _ h => h.elim)).trans hA7.kept (fun i hi hf => by have h1 := hN.new i hf; have h2 := hstA.kept.size; omega)).trans hA8.kept (fun i hi hf => by
            rcases hst.fe i hf with h5 | h5
            · exact h5
            · omega)
          go_wp2_with fail
          refine (alike_any hA8.disk hL8 (hstay1.trans hSL)).mono ?_
          rintro e w9 ⟨rfl, hk9⟩
          have hwe := HWE.out
          have hE9 := hA8.disk.kept hk9 (fun _ _ h => h)
          have hP9 := hP8.kept hk9 (fun _ _ h => h)
          go_wp2_with fail
          refine (writes_any hE9).mono ?_
          rintro e w10 ⟨rfl, rfl⟩
          have hS9 : CutSt w5 p b m b' m' F true (.pointer (some ⟨b3, 0, none⟩)) w9 es c D es8 c8 E' := by
            refine ⟨hD8.kept hk9 (fun _ _ h => h), hE9, hK8.trans hk9 (fun _ _ h => h.elim), hst.fd, ?_, ?_, hst.dc, hsc, HSM.out, .inr ⟨rfl, ?_, b3, m3, es3, c3, L, rfl, hL8.kept hk9 (fun _ _ h => h), hstay1.trans hSL, ?_⟩⟩
            · intro i hi
              rcases hf8 i hi with h1 | h1
              · exact hst.fe i h1
              · exact .inr (by have h2 := hst.kept.size; have h3 := hkA.size; omega)
            · intro i hi hi'
              rcases hf8 i hi' with h1 | h1
              · exact hst.apart i hi h1
              · have := hltDA i hi; omega
            · have h1 := HSM.out; have h2 := HSUM.out; have h3 := HWE.out; have h4 := HL0.out; omega
            · intro i hi hi'
              rcases hf8 i hi' with h1 | h1
              · exact hapL i hi h1
              · have := hltL i hi; omega
          rcases his with ⟨g1, g2, -, -⟩ | ⟨g1, -, g3, -, -⟩
          · have hz : P'.writes = 0 := by
              have h0 := HL0.out
              have h1 : P'.writes - 0 ≤ E.left := g1
              have h2 : (0 : Int) ≤ P'.writes := hup
              omega
            obtain rfl : z = y := g2
            go_wp2_with fail
            clear hwe
            refine (writes_any hP9).mono ?_
            rintro e w10 ⟨rfl, rfl⟩
            go_wp2_with fail
            refine (writes_any hP9).mono ?_
            rintro e w10 ⟨rfl, rfl⟩
            go_wp2_with fail
            clear hz
            go_roundw
            case rel => exact ⟨k + 1, true, _, _, _, _, _, _, by omega, by go_num, rfl, hS9⟩
            case measure => simp [intOf]; omega
          · obtain rfl : y = 6 := g3
            have hz : 0 < P'.writes := by
              have h0 := HL0.out
              have h1 : E.left < P'.writes - 0 := g1
              omega
            have hz2 : (P'.writes == 0) = false := by simp; omega
            go_wp2_with fail
            clear hwe
            refine (writes_any hP9).mono ?_
            rintro e w10 ⟨rfl, rfl⟩
            go_wp2_with fail
            refine (writes_any hP9).mono ?_
            rintro e w10 ⟨rfl, rfl⟩
            go_wp2_with fail
            clear hz hz2
            go_roundw
            case rel => exact ⟨k + 1, true, _, _, _, _, _, _, by omega, by go_num, rfl, hS9⟩
            case measure => simp [intOf]; omega
      · have hcu := cutting_any hst.e
        rw [hst.ec] at hcu
        simp only [if_true] at hcu
        have hls : p - E.writes = E.left := by have := hst.sum; omega
        have hEl := hst.e.ok.l0
        have hEw := hst.e.ok.w0
        have hEl1 := hst.e.ok.l1
        have hElim : E.writes < 2305843009213693952 := by omega
        go_wp2_with fail
        refine hcu.mono ?_
        rintro e w6 ⟨rfl, rfl⟩
        go_wp2_with fail
        refine (writes_any hst.e).mono ?_
        rintro e w6 ⟨rfl, rfl⟩
        go_wp2_with fail
        clear hls
        refine (mend_any hst.e).mono ?_
        rintro e w6 ⟨rfl, hd6, hk6⟩
        have hs2 := isB_new1 w6
        have hk7 : Kept (fun _ => False) w6 (w6.alloc (.cells #[.int .u8 1] 5)) := (Kept.refl _ _).alloc _
        have hlt6 := hd6.lt
        have hd7 := hd6.kept hk7 (fun _ _ hf => hf)
        obtain ⟨⟨r, E7⟩, hq⟩ : ∃ q, E.mend.append nameA [1] = q := ⟨_, rfl⟩
        have hr6 := append_uncut E.mend nameA [1] rfl
        rw [hq] at hr6
        have hr6' : (r == 6) = false := by simp only [beq_eq_false_iff_ne]; exact hr6
        have HQ := Lib.hid hq
        clear hq hr6
        go_wp2_with fail
        refine (append_eq HQ.out hd7 (by decide) hs2 (fun _ g hg hf => by cases hg; have := hlt6 _ hf; simp at this) hElim).mono ?_
        rintro e w8 ⟨rfl, es8, c8, hA8⟩
        go_wp2_with fail
        refine (wakes02_any w8).mono ?_
        rintro e w9 ⟨rfl, hk9⟩
        go_wp2
        go_ret
        refine ⟨rfl, ((((hk15.more (hst.kept) (fun i hi => (hFw i hi).1)).more hk6 ?_).more hk7 (fun _ h => h.elim)).more hA8.kept ?_).more hk9 (fun _ h => h.elim)⟩
        · rintro i rfl
          rcases hst.fe i (.inl rfl) with h1 | h1
          · exact (hFw i h1).1
          · omega
        · intro i hi
          rcases hst.fe i hi with h1 | h1
          · exact (hFw i h1).1
          · omega
  · rw [if_neg hneg] at hpe
    go_wp2_with fail
    refine (new_any w1).mono ?_
    rintro e w2 ⟨b, m, rfl, hb, hm, hd, hk2⟩
    go_wp2_with fail
    refine (new_any w2).mono ?_
    rintro e w3 ⟨b', m', rfl, hb', hm', hd', hk3⟩
    have hd3 := hd.kept hk3 (fun _ _ h => h)
    have hF2 : ∀ i, diskF b m #[] i → w1.heap.size ≤ i := by
      rintro k (rfl | rfl | ⟨e, he, _⟩)
      · exact hb
      · exact hm
      · simp at he
    have hF3 : ∀ i, diskF b' m' #[] i → w2.heap.size ≤ i := by
      rintro k (rfl | rfl | ⟨e, he, _⟩)
      · exact hb'
      · exact hm'
      · simp at he
    have hlt2 : ∀ i, diskF b m #[] i → i < w2.heap.size := hd.lt
    have hlt3 : ∀ i, diskF b' m' #[] i → i < w3.heap.size := hd'.lt
    have hk2S := hk2.size
    have hk3S := hk3.size
    go_wp2_with fail
    refine (cut_any hd' p hp0 (by omega)).mono ?_
    rintro e w4 ⟨rfl, hd4', hk4⟩
    have hd4 := hd3.kept hk4 (fun k hf e => by have := hlt2 k hf; omega)
    have hk4S := hk4.size
    have hk14 : Kept (fun _ => False) w w4 := (((hk1.more hk2 (fun _ h => h.elim)).more hk3 (fun _ h => h.elim))).more hk4 (fun i e => by omega)
    have hops4 := h.kept hk14
    have hlt4 : ∀ i, diskF b' m' #[] i → i < w4.heap.size := hd4'.lt
    go_wp2_with fail
    refine (script_any w4 a c l hops4).mono ?_
    rintro e w5 ⟨v, rfl, hown, hk5⟩
    have hok0 := hops4.short
    generalize (l.take 60).map OpV.short = ns at *
    obtain ⟨gr, hrow, hgr⟩ := OpsRow.of_owns hown
    obtain ⟨va, vc, rfl, hvc1, hvc2⟩ := hrow.form
    have hnl : ns.length ≤ 9223372036854775807 := by have h1 := hvc2; unfold maxLen at h1; omega
    have hk15 : Kept (fun _ => False) w w5 := hk14.more hk5 (fun _ h => h.elim)
    have hk5S := hk5.size
    obtain ⟨F, hFe⟩ : ∃ F : Nat → Prop, F = fun i => diskF b m #[] i ∨ diskF b' m' #[] i := ⟨_, rfl⟩
    have hst0 : CutSt w5 p b m b' m' F false (.pointer none) w5 #[] 0 ⟨[], 0, 0, false⟩ #[] 0 (DM.cutAt ⟨[], 0, 0, false⟩ p) := by
      rw [hFe]
      exact ⟨hd4.kept hk5 (fun _ _ h => h), hd4'.kept hk5 (fun _ _ h => h), Kept.refl _ _, fun i hi => .inl (.inl hi), fun i hi => .inl (.inr hi), fun i hi hi' => by have h1 := hlt2 i hi; have h2 := hF3 i hi'; omega, rfl, rfl, by simp [DM.cutAt], .inl ⟨rfl, ⟨fun _ => rfl, rfl⟩, rfl⟩⟩
    have hFw : ∀ i, F i → w.heap.size ≤ i ∧ i < w4.heap.size := by
      rw [hFe]
      rintro i (hi | hi)
      · have h1 := hF2 i hi; have h2 := hlt2 i hi; omega
      · have h1 := hF3 i hi; have h2 := hlt4 i hi; omega
    have hopw : ∀ o ∈ ns, o.bytes ≠ [] → ∀ g, o.bv.ownBlock = some g → g < w.heap.size := hSB
    clear hd hd' hd3 hd4 hd4' hF2 hF3 hlt2 hlt3 hlt4 hown hops4 hk2 hk3 hk4 hb hm hb' hm' hk1 hFe
    go_wp2_with fail
    go_loopw [45, 7, 8] (fun i cv lv wr => ∃ (k : Nat) (cut : Bool) (es : Array MapEntry) (c : Nat) (D : DM) (es' : Array MapEntry) (c' : Nat) (E : DM), k ≤ ns.length ∧ i = .int .i64 k ∧ cv = .bool cut ∧ CutSt w5 p b m b' m' F cut lv wr es c D es' c' E) (fun i _ _ _ => ns.length - (intOf i).toNat)
    case atStart => exact ⟨0, false, #[], 0, _, #[], 0, _, Nat.zero_le _, rfl, rfl, hst0⟩
    case round =>
      obtain ⟨k, cut, es, c, D, es', c', E, hkn, rfl, rfl, hst⟩ := hrel
      by_cases hlt : k < ns.length
      · obtain ⟨o, ho⟩ : ∃ o, ns[k] = o := ⟨_, rfl⟩
        have hne : ns ≠ [] := fun e => by rw [e] at hlt; simp at hlt
        obtain ⟨g, vc', hgs, hglt, hvv, hcells⟩ := hrow.at_.resolve_left hne
        obtain ⟨rfl, rfl⟩ : va = some ⟨g, 0, none⟩ ∧ vc = vc' := by simpa using hvv
        have hgF : ¬ F g := fun hf => by have h1 := (hFw g hf).2; have h2 := hgr g hgs; omega
        have hc0 : wr.cell? ⟨g, k * 5, none⟩ = some (.int .i64 o.kind) := hst.kept.cell (hcells (k * 5) _ (by have := flatO_get ns k 0 hlt (by omega); rw [ho] at this; exact this)) hgF
        have hc1 : wr.cell? ⟨g, k * 5 + 1, none⟩ = some (.string o.name) := hst.kept.cell (hcells (k * 5 + 1) _ (by have := flatO_get ns k 1 hlt (by omega); rw [ho] at this; exact this)) hgF
        have hc2 : wr.cell? ⟨g, k * 5 + 2, none⟩ = some (.string o.to) := hst.kept.cell (hcells (k * 5 + 2) _ (by have := flatO_get ns k 2 hlt (by omega); rw [ho] at this; exact this)) hgF
        have hc3 : wr.cell? ⟨g, k * 5 + 3, none⟩ = some (.int .i64 o.n) := hst.kept.cell (hcells (k * 5 + 3) _ (by have := flatO_get ns k 3 hlt (by omega); rw [ho] at this; exact this)) hgF
        have hc4 : wr.cell? ⟨g, k * 5 + 4, none⟩ = some (.slice o.ba o.bytes.length o.bc) := hst.kept.cell (hcells (k * 5 + 4) _ (by have := flatO_get ns k 4 hlt (by omega); rw [ho] at this; exact this)) hgF
        have hom : o ∈ ns := by rw [← ho]; exact List.getElem_mem _
        obtain ⟨hoB, hosn, host⟩ := hok0 o hom
        have hoS := hopw o hom
        clear hcells hvv hrow
        obtain ⟨wA, hwA, hkA, hszA, hcA⟩ : ∃ wA, wr.alloc (.cells #[.int .i64 o.kind, .string o.name, .string o.to, .int .i64 o.n, .slice o.ba o.bytes.length o.bc] 38) = wA ∧ Kept (fun _ => False) wr wA ∧ wA.heap.size = wr.heap.size + 1 ∧ ∀ j u, o.cells[j]? = some u → wA.cell? ((⟨wr.heap.size, 0, none⟩ : Addr).add j) = some u :=
          ⟨_, rfl, (Kept.refl _ _).alloc _, by simp, fun j u hu => by rw [addr_add, Nat.zero_add, World.cell?_alloc_new]; simpa [OpV.cells] using hu⟩
        have hA0 : wA.cell? ⟨wr.heap.size, 0, none⟩ = some (.int .i64 o.kind) := by have := hcA 0 (.int .i64 o.kind) rfl; simpa [addr_add] using this
        have hA1 : wA.cell? ⟨wr.heap.size, 1, none⟩ = some (.string o.name) := by have := hcA 1 (.string o.name) rfl; simpa [addr_add] using this
        have hA2 : wA.cell? ⟨wr.heap.size, 2, none⟩ = some (.string o.to) := by have := hcA 2 (.string o.to) rfl; simpa [addr_add] using this
        have hA3 : wA.cell? ⟨wr.heap.size, 3, none⟩ = some (.int .i64 o.n) := by have := hcA 3 (.int .i64 o.n) rfl; simpa [addr_add] using this
        have hA4 : wA.cell? ⟨wr.heap.size, 4, none⟩ = some (.slice o.ba o.bytes.length o.bc) := by have := hcA 4 (.slice o.ba o.bytes.length o.bc) rfl; simpa [addr_add] using this
        clear hcA
        have hstA := hst.more hkA
        have hltD : ∀ i, diskF b m es i → i < wr.heap.size := hst.d.lt
        have hltE : ∀ i, diskF b' m' es' i → i < wr.heap.size := hst.e.lt
        go_wp2_with fail
        refine (writes_any hstA.e).mono ?_
        rintro e w' ⟨rfl, rfl⟩
        have hoB5 : IsB wA o.bv o.bytes := ((hoB.keptF hk5 (fun _ _ h => h)).keptS hst.kept (fun hne g hg hf => by have h1 := hoS hne g hg; have h2 := (hFw g hf).1; omega)).keptF hkA (fun _ _ h => h)
        have hfD : ∀ i, diskF b m es i → w.heap.size ≤ i := by
          intro i hi
          rcases hst.fd i hi with hf | hf
          · exact (hFw i hf).1
          · omega
        have hfE : ∀ i, diskF b' m' es' i → w.heap.size ≤ i := by
          intro i hi
          rcases hst.fe i hi with hf | hf
          · exact (hFw i hf).1
          · omega
        have hsepD : o.bytes ≠ [] → ∀ g, o.bv.ownBlock = some g → ¬ diskF b m es g := fun hne g hg hf => by have h1 := hoS hne g hg; have h2 := hfD g hf; omega
        have hsepE : o.bytes ≠ [] → ∀ g, o.bv.ownBlock = some g → ¬ diskF b' m' es' g := fun hne g hg hf => by have h1 := hoS hne g hg; have h2 := hfE g hf; omega
        have HSUM := Lib.hid hstA.sum
        have hEl := hstA.e.ok.l0
        have hEw := hstA.e.ok.w0
        have hElim : E.writes < 2305843009213693952 := by have := HSUM.out; omega
        have hbD : ¬ diskF b m es wr.heap.size := fun hf => by have := hltD _ hf; omega
        have hbE : ¬ diskF b' m' es' wr.heap.size := fun hf => by have := hltE _ hf; omega
        cases cut with
        | false =>
          obtain ⟨hSame, HDE⟩ : DM.Same D E ∧ Hid (D.writes = E.writes) := by
            rcases hstA.is with ⟨-, h1, h2⟩ | ⟨h1, -⟩
            · exact ⟨h1, h2⟩
            · cases h1
          have hrel := step_cut o D E hSame hstA.dc hstA.ec hEl hstA.d.ok.nodup hstA.e.ok.nodup
          have hDlim : D.writes < 2305843009213693952 := by have := HDE.out; have := HSUM.out; omega
          obtain ⟨⟨x, D'⟩, hqD⟩ : ∃ q, D.step o = q := ⟨_, rfl⟩
          obtain ⟨⟨y, E'⟩, hqE⟩ : ∃ q, E.step o = q := ⟨_, rfl⟩
          rw [hqD, hqE] at hrel
          have HQD := Lib.hid hqD
          have HQE := Lib.hid hqE
          clear hqD hqE
          have hDd := hstA.d.kept (drew_kept wA) (fun _ _ h => h)
          have hEd := hstA.e.kept (drew_kept wA) (fun _ _ h => h)
          have hoBd := hoB5.keptF (drew_kept wA) (fun _ _ h => h)
          have hnd : ∀ i, diskF b' m' es' i → ¬ diskF b m es i := fun i hi hi' => hst.apart i hi' hi
          obtain ⟨hrc, hsc, hup, hquiet, hsm, hsl, his⟩ := hrel
          have HSM : Hid (E'.writes + E'.left = p) := Lib.hid (hsm.trans HSUM.out)
          clear hsm hquiet
          rcases his with ⟨g1, g2, g3, g4⟩ | ⟨g1, g2, g3, g4, g5⟩
          · simp only at g1 g2 g3 g4 hup hrc hsc hsl
            subst g2
            have hle : D'.writes ≤ p := by have := HDE.out; have := HSUM.out; omega
            have hwe : D'.writes = E'.writes := by have := HDE.out; omega
            have HWE := Lib.hid hwe
            clear g4 hwe
            go_wp2_with fail
            go_region_held3 (fun w' => w'.cell? ⟨wr.heap.size, 0, none⟩ = some (.int .i64 o.kind) ∧ w'.cell? ⟨wr.heap.size, 1, none⟩ = some (.string o.name) ∧ w'.cell? ⟨wr.heap.size, 2, none⟩ = some (.string o.to) ∧ w'.cell? ⟨wr.heap.size, 3, none⟩ = some (.int .i64 o.n) ∧ w'.cell? ⟨wr.heap.size, 4, none⟩ = some (.slice o.ba o.bytes.length o.bc))
              (first | exact box_kept hA7.kept hbE (box_kept hA6.kept hbD ⟨hA0, hA1, hA2, hA3, hA4⟩) | exact box_kept hA6.kept hbD ⟨hA0, hA1, hA2, hA3, hA4⟩ | exact ⟨hA0, hA1, hA2, hA3, hA4⟩)
              ((first | (go_at_call 20; refine (step_is (hEd.kept hA6.kept hnd) o HQE.out (hoBd.keptS hA6.kept hsepD) hosn host hsepE hElim).mono ?_; rintro e' w7 ⟨rfl, es7, c7, hA7⟩) | (go_at_call 20; refine (step_is hDd o HQD.out hoBd hosn host hsepD hDlim).mono ?_; rintro e' w6 ⟨rfl, es6, c6, hA6⟩)))
            have hS7 := hstA.both (cut' := false) (last' := u8) (hA6.ahead (drew_kept wA)) hA7 hrc hsc HSM.out (.inl ⟨rfl, g3, HWE.out⟩)
            go_wp2_with fail
            refine (writes_any hS7.d).mono ?_
            rintro e w8 ⟨rfl, rfl⟩
            go_wp2_with fail
            refine (alike_any hS7.d hS7.e g3).mono ?_
            rintro e w8 ⟨rfl, hk8⟩
            have hS8 := hS7.more hk8
            have hwe := HWE.out
            go_wp2_with fail
            refine (writes_any hS8.d).mono ?_
            rintro e w9 ⟨rfl, rfl⟩
            go_wp2_with fail
            refine (writes_any hS8.e).mono ?_
            rintro e w9 ⟨rfl, rfl⟩
            clear hwe
            go_wp2_with fail
            go_roundw
            case rel => exact ⟨k + 1, false, _, _, _, _, _, _, by omega, by go_num, rfl, hS8⟩
            case measure => simp [intOf]; omega
          · simp only at g1 g2 g3 g4 g5 hup hrc hsc hsl
            subst g2
            subst g3
            have hle : ¬ D'.writes ≤ p := by have := HDE.out; have := HSUM.out; omega
            have hwp : E'.writes = p := by have := HSUM.out; omega
            have HWP := Lib.hid hwp
            clear g4 g5 hwp
            go_wp2_with fail
            go_region_held3 (fun w' => w'.cell? ⟨wr.heap.size, 0, none⟩ = some (.int .i64 o.kind) ∧ w'.cell? ⟨wr.heap.size, 1, none⟩ = some (.string o.name) ∧ w'.cell? ⟨wr.heap.size, 2, none⟩ = some (.string o.to) ∧ w'.cell? ⟨wr.heap.size, 3, none⟩ = some (.int .i64 o.n) ∧ w'.cell? ⟨wr.heap.size, 4, none⟩ = some (.slice o.ba o.bytes.length o.bc))
              (first | exact box_kept hA7.kept hbE (box_kept hA6.kept hbD ⟨hA0, hA1, hA2, hA3, hA4⟩) | exact box_kept hA6.kept hbD ⟨hA0, hA1, hA2, hA3, hA4⟩ | exact ⟨hA0, hA1, hA2, hA3, hA4⟩)
              ((first | (go_at_call 20; refine (step_is (hEd.kept hA6.kept hnd) o HQE.out (hoBd.keptS hA6.kept hsepD) hosn host hsepE hElim).mono ?_; rintro e' w7 ⟨rfl, es7, c7, hA7⟩) | (go_at_call 20; refine (step_is hDd o HQD.out hoBd hosn host hsepD hDlim).mono ?_; rintro e' w6 ⟨rfl, es6, c6, hA6⟩)))
            have hd7 := hA7.disk
            have hd6 : DiskAt w7 b m es6 c6 D' := hA6.disk.kept hA7.kept (fun i hi hi' => by
              rcases hA6.foot i hi with hf | hf
              · exact hst.apart i hf hi'
              · have h1 := hltE i hi'; have h2 := hkA.size; have h3 := (drew_kept wA).size; omega)
            go_wp2_with fail
            refine (writes_any hd6).mono ?_
            rintro e w8 ⟨rfl, rfl⟩
            have hwp := HWP.out
            go_wp2_with fail
            refine (writes_any hd7).mono ?_
            rintro e w8 ⟨rfl, rfl⟩
            go_wp2_with fail
            clear hwp
            refine (copy_any hd7).mono ?_
            rintro e w8 ⟨b3, m3, es3, c3, files3, rfl, hN, hSN⟩
            have hlt7 : ∀ i, diskF b' m' es7 i → i < w7.heap.size := hd7.lt
            have hS8 := hstA.both (cut' := true) (last' := .pointer (some ⟨b3, 0, none⟩)) (hA6.ahead (drew_kept wA)) (hA7.after hN.kept) hrc hsc HSM.out (.inr ⟨rfl, by have := HSM.out; have := HWP.out; omega, b3, m3, es3, c3, _, rfl, hN.disk, hSN.symm, fun i hi hi' => by have h1 := hN.new i hi; have h2 := hlt7 i hi'; omega⟩)
            go_wp2_with fail
            go_roundw
            case rel => exact ⟨k + 1, true, _, _, _, _, _, _, by omega, by go_num, rfl, hS8⟩
            case measure => simp [intOf]; omega
        | true =>
          obtain ⟨hl0, b3, m3, es3, c3, L, hlv, hdL, hSL, hapL⟩ : E.left = 0 ∧ ∃ b3 m3 es3 c3 L, u8 = .pointer (some ⟨b3, 0, none⟩) ∧ DiskAt wA b3 m3 es3 c3 L ∧ DM.Same E L ∧ ∀ i, diskF b3 m3 es3 i → ¬ diskF b' m' es' i := by
            rcases hstA.is with ⟨h1, -⟩ | ⟨-, h2⟩
            · cases h1
            · exact h2
          subst hlv
          have HL0 := Lib.hid hl0
          clear hl0
          go_wp2_with fail
          refine (copy_any hstA.e).mono ?_
          rintro e w6 ⟨b6, m6, es6, c6, files6, rfl, hN, hSN⟩
          obtain ⟨⟨z, P'⟩, hqP⟩ : ∃ q, DM.step ⟨files6, 0, 0, false⟩ o = q := ⟨_, rfl⟩
          obtain ⟨⟨y, E'⟩, hqE⟩ : ∃ q, E.step o = q := ⟨_, rfl⟩
          have hrel := step_cut o _ E hSN rfl hstA.ec hEl hN.disk.ok.nodup hstA.e.ok.nodup
          rw [hqP, hqE] at hrel
          obtain ⟨hstay1, hstay2⟩ := hrel.stays hSN HL0.out
          have HQP := Lib.hid hqP
          have HQE := Lib.hid hqE
          clear hqP hqE
          obtain ⟨hrc, hsc, hup, hquiet, hsm, hsl, his⟩ := hrel
          have HSM : Hid (E'.writes + E'.left = p) := Lib.hid (hsm.trans HSUM.out)
          have HWE : Hid (E'.writes = E.writes) := Lib.hid hstay2
          clear hsm hquiet hstay2
          have hb6 := box_kept hN.kept (fun h => h) ⟨hA0, hA1, hA2, hA3, hA4⟩
          obtain ⟨h60, h61, h62, h63, h64⟩ := id hb6
          have hltA : ∀ i, diskF b' m' es' i → i < wA.heap.size := hstA.e.lt
          have hltL : ∀ i, diskF b3 m3 es3 i → i < wA.heap.size := hdL.lt
          have hltDA : ∀ i, diskF b m es i → i < wA.heap.size := hstA.d.lt
          have hN6S := hN.kept.size
          have hoB6 := hoB5.keptF hN.kept (fun _ _ h => h)
          have hwwA : w.heap.size ≤ wA.heap.size := by have h1 := hk15.size; have h2 := hst.kept.size; have h3 := hkA.size; omega
          have hsep6 : o.bytes ≠ [] → ∀ g, o.bv.ownBlock = some g → ¬ diskF b6 m6 es6 g := fun hne g hg hf => by have h1 := hoS hne g hg; have h2 := hN.new g hf; omega
          have hnb6 : ¬ diskF b6 m6 es6 wr.heap.size := fun hf => by have h2 := hN.new _ hf; omega
          go_wp2_with fail
          refine (step_is hN.disk o HQP.out hoB6 hosn host hsep6 (by simp)).mono ?_
          rintro e w7 ⟨rfl, es7, c7, hA7⟩
          have hd7 : DiskAt w7 b' m' es' c' E := (hstA.e.kept hN.kept (fun _ _ h => h)).kept hA7.kept (fun i hi hi' => by have h1 := hltA i hi; have h2 := hN.new i hi'; omega)
          have hb7 := box_kept hA7.kept hnb6 hb6
          obtain ⟨h70, h71, h72, h73, h74⟩ := id hb7
          have hoB7 := hoB6.keptS hA7.kept hsep6
          go_wp2_with fail
          refine (step_is hd7 o HQE.out hoB7 hosn host hsepE hElim).mono ?_
          rintro e w8 ⟨rfl, es8, c8, hA8⟩
          have hf8 : ∀ i, diskF b' m' es8 i → diskF b' m' es' i ∨ w6.heap.size ≤ i := fun i hi => (hA8.foot i hi).imp_right (fun h => Nat.le_trans hA7.kept.size h)
          have hL8 : DiskAt w8 b3 m3 es3 c3 L := ((hdL.kept hN.kept (fun _ _ h => h)).kept hA7.kept (fun i hi hi' => by have h1 := hltL i hi; have h2 := hN.new i hi'; omega)).kept hA8.kept hapL
          have hP8 : DiskAt w8 b6 m6 es7 c7 P' := hA7.disk.kept hA8.kept (fun i hi hi' => by
            have h1 := hltA i hi'
            rcases hA7.foot i hi with h2 | h2
            · have := hN.new i h2; omega
            · omega)
          have hD8 : DiskAt w8 b m es c D := ((hstA.d.kept hN.kept (fun _ _ h => h)).kept hA7.kept (fun i hi hi' => by have h1 := hltDA i hi; have h2 := hN.new i hi'; omega)).kept hA8.kept hstA.apart
          have hK8 : Kept F w5 w8 := ((hstA.kept.trans hN.kept (fun _ _ h => h.elim)).trans hA7.kept (fun i hi hf => by have h1 := hN.new i hf; have h2 := hstA.kept.size; omega)).trans hA8.kept (fun i hi hf => by
            rcases hst.fe i hf with h5 | h5
            · exact h5
            · omega)
          go_wp2_with fail
          refine (alike_any hA8.disk hL8 (hstay1.trans hSL)).mono ?_
          rintro e w9 ⟨rfl, hk9⟩
          have hwe := HWE.out
          have hE9 := hA8.disk.kept hk9 (fun _ _ h => h)
          have hP9 := hP8.kept hk9 (fun _ _ h => h)
          go_wp2_with fail
          refine (writes_any hE9).mono ?_
          rintro e w10 ⟨rfl, rfl⟩
          have hS9 : CutSt w5 p b m b' m' F true (.pointer (some ⟨b3, 0, none⟩)) w9 es c D es8 c8 E' := by
            refine ⟨hD8.kept hk9 (fun _ _ h => h), hE9, hK8.trans hk9 (fun _ _ h => h.elim), hst.fd, ?_, ?_, hst.dc, hsc, HSM.out, .inr ⟨rfl, ?_, b3, m3, es3, c3, L, rfl, hL8.kept hk9 (fun _ _ h => h), hstay1.trans hSL, ?_⟩⟩
            · intro i hi
              rcases hf8 i hi with h1 | h1
              · exact hst.fe i h1
              · exact .inr (by have h2 := hst.kept.size; have h3 := hkA.size; omega)
            · intro i hi hi'
              rcases hf8 i hi' with h1 | h1
              · exact hst.apart i hi h1
              · have := hltDA i hi; omega
            · have h1 := HSM.out; have h2 := HSUM.out; have h3 := HWE.out; have h4 := HL0.out; omega
            · intro i hi hi'
              rcases hf8 i hi' with h1 | h1
              · exact hapL i hi h1
              · have := hltL i hi; omega
          rcases his with ⟨g1, g2, -, -⟩ | ⟨g1, -, g3, -, -⟩
          · have hz : P'.writes = 0 := by
              have h0 := HL0.out
              have h1 : P'.writes - 0 ≤ E.left := g1
              have h2 : (0 : Int) ≤ P'.writes := hup
              omega
            obtain rfl : z = y := g2
            go_wp2_with fail
            clear hwe
            refine (writes_any hP9).mono ?_
            rintro e w10 ⟨rfl, rfl⟩
            go_wp2_with fail
            refine (writes_any hP9).mono ?_
            rintro e w10 ⟨rfl, rfl⟩
            go_wp2_with fail
            clear hz
            go_roundw
            case rel => exact ⟨k + 1, true, _, _, _, _, _, _, by omega, by go_num, rfl, hS9⟩
            case measure => simp [intOf]; omega
          · obtain rfl : y = 6 := g3
            have hz : 0 < P'.writes := by
              have h0 := HL0.out
              have h1 : E.left < P'.writes - 0 := g1
              omega
            have hz2 : (P'.writes == 0) = false := by simp; omega
            go_wp2_with fail
            clear hwe
            refine (writes_any hP9).mono ?_
            rintro e w10 ⟨rfl, rfl⟩
            go_wp2_with fail
            refine (writes_any hP9).mono ?_
            rintro e w10 ⟨rfl, rfl⟩
            go_wp2_with fail
            clear hz hz2
            go_roundw
            case rel => exact ⟨k + 1, true, _, _, _, _, _, _, by omega, by go_num, rfl, hS9⟩
            case measure => simp [intOf]; omega
      · have hcu := cutting_any hst.e
        rw [hst.ec] at hcu
        simp only [if_true] at hcu
        have hls : p - E.writes = E.left := by have := hst.sum; omega
        have hEl := hst.e.ok.l0
        have hEw := hst.e.ok.w0
        have hEl1 := hst.e.ok.l1
        have hElim : E.writes < 2305843009213693952 := by omega
        go_wp2_with fail
        refine hcu.mono ?_
        rintro e w6 ⟨rfl, rfl⟩
        go_wp2_with fail
        refine (writes_any hst.e).mono ?_
        rintro e w6 ⟨rfl, rfl⟩
        go_wp2_with fail
        clear hls
        refine (mend_any hst.e).mono ?_
        rintro e w6 ⟨rfl, hd6, hk6⟩
        have hs2 := isB_new1 w6
        have hk7 : Kept (fun _ => False) w6 (w6.alloc (.cells #[.int .u8 1] 5)) := (Kept.refl _ _).alloc _
        have hlt6 := hd6.lt
        have hd7 := hd6.kept hk7 (fun _ _ hf => hf)
        obtain ⟨⟨r, E7⟩, hq⟩ : ∃ q, E.mend.append nameA [1] = q := ⟨_, rfl⟩
        have hr6 := append_uncut E.mend nameA [1] rfl
        rw [hq] at hr6
        have hr6' : (r == 6) = false := by simp only [beq_eq_false_iff_ne]; exact hr6
        have HQ := Lib.hid hq
        clear hq hr6
        go_wp2_with fail
        refine (append_eq HQ.out hd7 (by decide) hs2 (fun _ g hg hf => by cases hg; have := hlt6 _ hf; simp at this) hElim).mono ?_
        rintro e w8 ⟨rfl, es8, c8, hA8⟩
        go_wp2_with fail
        refine (wakes02_any w8).mono ?_
        rintro e w9 ⟨rfl, hk9⟩
        go_wp2
        go_ret
        refine ⟨rfl, ((((hk15.more (hst.kept) (fun i hi => (hFw i hi).1)).more hk6 ?_).more hk7 (fun _ h => h.elim)).more hA8.kept ?_).more hk9 (fun _ h => h.elim)⟩
        · rintro i rfl
          rcases hst.fe i (.inl rfl) with h1 | h1
          · exact (hFw i h1).1
          · omega
        · intro i hi
          rcases hst.fe i hi with h1 | h1
          · exact (hFw i h1).1
          · omega
end Go.Proofs.Ytinmjgaaehdicaa
