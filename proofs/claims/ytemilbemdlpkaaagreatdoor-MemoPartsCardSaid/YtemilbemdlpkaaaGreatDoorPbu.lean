/- memo: Each's closure: the pairs, by rising From. -/
import Derived.Test.YtemilbemdlpkaaaGreatDoorPbk
import Derived.Test.YtemilbemdlpkaaaGreatDoorPap
import Derived.Test.YtemilbemdlpkaaaGreatDoorPbt
import Derived.Test.YtemilbemdlpkaaaGreatDoorPbf
import Derived.Test.YtemilbemdlpkaaaGreatDoorPav
import Derived.Test.YtemilbemdlpkaaaGreatDoorPad
namespace Go.Proofs.YtemilbemdlpkaaaGreatDoor
open Go.RowKit Go.ChangeMaps Go.MapKept Go.Shelf
set_option linter.unusedSimpArgs false
attribute [local go_sem] Oper.semAt_some

/-- An entry's key. -/
def keyN (e : MapEntry) : Nat := match e.key with | .int _ n => n.toNat | _ => 0
theorem keyN_of {e : MapEntry} {n : Nat} (h : e.key = idV n) : keyN e = n := by
  unfold keyN
  rw [h]
  show ((n : Int)).toNat = n
  omega
theorem rel_keys : ∀ {es : List MapEntry} {l : List (Nat × Nat)}, RelM idV idW es l → es.map keyN = l.map (·.1)
  | [], [], _ => rfl
  | _ :: _, _ :: _, h => by rw [List.map_cons, List.map_cons, keyN_of h.1.1, rel_keys h.2]
theorem IterAt.perm {w : World} {r m : Nat} {es : Array MapEntry} {clock : Nat} {vis : List MapEntry} (h : IterAt w r m es clock vis) (hs : Stamped es clock) (ha : ∀ e ∈ es.toList, e ∈ vis) : vis.Perm es.toList := by
  refine (List.perm_ext_iff_of_nodup (nodup_of_map _ h.nodup) ?_).2 (fun e => ⟨h.sub e, ha e⟩)
  exact nodup_of_map (·.born) hs.2.1

set_option maxRecDepth 100000 in
set_option maxHeartbeats 400000 in
theorem meach_seq {w : World} {p : Nat} {jp dp : Value} {km : Nat} {kes : Array MapEntry} {kclk : Nat} {tv : Value} {ps : List PtM} {M : MP} (n : Nat) (hn : 2 ≤ n) (Bs box : Nat) (h : MemI w p jp dp km kes kclk tv ps M) (hBs : w.heap[Bs]? = some (.cells #[.pointer (some ⟨p, 0, none⟩)] 29 (0, 0)))
    (hbox : box < w.heap.size) (hown : ∀ k, ¬ Owned box w k) :
    SeqV n Tryz.prog 67 #[.pointer (some ⟨Bs, 0, none⟩)] (fun x : Nat × Nat => #[valP x]) (fun _ _ => True) (KeepZ (fun k => k = Bs ∨ k = p ∨ k = km) box w.heap.size) (fun xs => xs = pairsL M.known) (fun pre => pre <+: pairsL M.known) (fun pre x => pre ++ [x] <+: pairsL M.known) w := by
  intro lp JJ Jx W hW hJ hY h0
  have hkW : Kept (fun _ => False) w W := Kept.of_below (Nat.le_refl _) hW
  have HB := Lib.hid (hW.block Bs (Array.getElem?_eq_some_iff.1 hBs).1 |>.trans hBs)
  have hI := h.keptN hkW
  have HI := Lib.hid hI
  have HY := Lib.hid hY
  have HA := Lib.hid hJ
  have c0 : W.cell? ⟨Bs, 0, none⟩ = some (.pointer (some ⟨p, 0, none⟩)) := by simp [World.cell?, HB.out]
  obtain ⟨-, -, -, c1, -⟩ := hI.fields
  have HKW := Lib.hid hkW
  have HOW := Lib.hid hown
  have HBX := Lib.hid hbox
  have hrng := run_range_map (P := Tryz.prog) Tryz.underlying88 W hI.known.map
  have hit : IterAt (W.alloc (.mapIter (some km) kclk #[] kclk)) W.heap.size km kes kclk [] := IterAt.start
  have hk2 : Kept (fun _ => False) W (W.alloc (.mapIter (some km) kclk #[] kclk)) := (Kept.refl _ _).alloc _
  have hsz1 : W.heap.size < (W.alloc (.mapIter (some km) kclk #[] kclk)).heap.size := by simp
  generalize W.alloc (.mapIter (some km) kclk #[] kclk) = W2 at *
  clear hY hJ h hBs hkW hW hI hown hbox
  refine callsIn_of_wp Tryz.func67 rfl trivial ?_ rfl
  refine wpIn_wide.2 ?_
  simp only [Tryz.ntmps67, List.size_toArray, List.length_cons, List.length_nil, Nat.reduceAdd, Nat.reduceSub, Array.replicate_succ, Array.replicate_zero, List.push_toArray, List.append_toArray, List.nil_append, List.cons_append]
  go_wp2_with fail
  go_loopw [3, 4] (fun lv _ wr => ∃ vis la lc, lv = .slice la vis.length lc ∧ IterAt wr W.heap.size km kes kclk vis ∧ OwnI (W.heap.size + 1) wr (.slice la vis.length lc) (vis.map keyN) ∧ Kept (fun _ => False) W wr ∧ W.heap.size < wr.heap.size)
    (fun _ _ wr => kes.size - iterSeen wr W.heap.size)
  case atStart => exact ⟨[], none, 0, rfl, hit, World.ownsRow_nil _ _ _ _, hk2, hsz1⟩
  case round =>
    obtain ⟨vis, la, lc, rfl, hi, ho, hkr, hszr⟩ := hrel
    have hvl : (vis.map keyN).length = vis.length := List.length_map _
    have hIr := HI.out.keptN hkr
    rcases hi.next (P := Tryz.prog) hIr.known.map hIr.known.stamped 0 with ⟨hall, hn⟩ | ⟨e, he, hnew, w3, hn, hen, hi3, hk3, hsz3⟩
    · have hp := hi.perm hIr.known.stamped hall
      have hks := rel_keys hIr.known.rel
      have hpk : (vis.map keyN).Perm (M.known.map (·.1)) := by rw [← hks]; exact hp.map keyN
      have hl := hIr.small.2.2.2.2
      have hU : upL (vis.map keyN) = (pairsL M.known).map (·.1) := by
        rw [upL_perm hpk]
        unfold pairsL
        rw [List.map_map]
        exact (List.map_id _).symm
      have hlen : (vis.map keyN).length = (pairsL M.known).length := by rw [hpk.length_eq, pairsL_length, List.length_map]
      have HS := Lib.hid (sortU_any (W.heap.size + 1) wr 35 (.slice la vis.length lc) (vis.map keyN) ho (by rw [hlen, pairsL_length]; omega))
      rw [hU, hlen] at HS
      obtain ⟨N, hN⟩ : ∃ N, (pairsL M.known).length = N := ⟨_, rfl⟩
      have hNM : N ≤ 65536 * 5 := by rw [← hN, pairsL_length]; exact hl
      have hvN : vis.length = N := by rw [← hvl, hlen, hN]
      obtain ⟨va, hva⟩ : ∃ va, la = va := ⟨_, rfl⟩
      obtain ⟨vc, hvc⟩ : ∃ vc, lc = vc := ⟨_, rfl⟩
      rw [hva, hvc] at ho
      rw [hvN] at ho
      rw [hN, hvN, hva, hvc] at HS
      rw [hvN, hva, hvc]
      have HN := Lib.hid hN
      have HKR := Lib.hid hkr
      have hob : Hid (∀ k, (Value.slice va N vc).ownBlock = some k → W.heap.size + 1 ≤ k) := Lib.hid (fun k e => (World.ownsRow.lt ho k e).1)
      clear hpk hU hlen hN hks hp hl ho hi hall hIr hkr hvl hvN hva hvc
      go_wp2_with fail
      refine HS.out.mono ?_
      rintro e w3 ⟨rfl, hrow, hk3⟩
      have HG : Hid (∀ k (hk : k < (pairsL M.known).length), ∃ g cur, va = some ⟨g, 0, none⟩ ∧ W.heap.size ≤ g ∧ w3.heap[g]? = some (.cells cur 35 (0, 0)) ∧ cur[k]? = some (.int .u64 ((pairsL M.known)[k].1 : Nat))) := Lib.hid (fun k hk => by
        rcases hrow.2 with ⟨h1, h2⟩ | ⟨g, cap, cur, h1, hg1, hg2, -, -, -, ht⟩
        · have := HN.out; omega
        · cases h1
          refine ⟨g, cur, rfl, by omega, hg2, ?_⟩
          have h3 : (((pairsL M.known).map (·.1)).map fun x : Nat => Value.int .u64 (x : Int))[k]? = some (.int .u64 ((pairsL M.known)[k].1 : Nat)) := by simp [hk]
          rw [← ht, List.getElem?_take] at h3
          split at h3
          · rw [Array.getElem?_toList] at h3; exact h3
          · cases h3)
      have hk03 : Kept (fun _ => False) W w3 := HKR.out.more hk3 (fun i e => by have := hob.out i e; omega)
      have hJ2 : JJ [] w3 := HA.out _ _ _ none h0 (hk03.grownBy none) (fun r e => by cases e)
      have HK03 := Lib.hid hk03
      clear hrow hk3 hk03 HS HKR hob
      go_wp2_with fail
      refine (wpIn_wide (n := n)).1 ?_
      gi_loopw [26] (fun i wr => ∃ k : Nat, k ≤ N ∧ i = .int .i64 k ∧ JJ ((pairsL M.known).take k) wr ∧ Hid (KeepZ (fun k => k = Bs ∨ k = p ∨ k = km) box w.heap.size w3 wr)) (fun i _ => N - (intOf i).toNat)
      case atStart => exact ⟨0, Nat.zero_le _, rfl, hJ2, Lib.hid ⟨⟨Nat.le_refl _, fun k o _ ho _ _ => ho, fun k h => .inl h⟩, fun _ _ => rfl⟩⟩
      case round =>
        obtain ⟨k, hk, rfl, hJs, hks⟩ := hrel
        have h1 := HI.out.keptN HK03.out
        have hmr := (hks.out.same km (.inr (.inr rfl))).trans h1.known.map
        have cp : wr.cell? ⟨p, 3, none⟩ = some (.map (some km)) := (World.cell?_of_block (w := w3) (a := ⟨p, 3, none⟩) (hks.out.same p (.inr (.inl rfl)))).trans h1.fields.2.2.2.1
        have cr : wr.cell? ⟨Bs, 0, none⟩ = some (.pointer (some ⟨p, 0, none⟩)) := by
          have h1 := (HK03.out.block Bs (Array.getElem?_eq_some_iff.1 HB.out).1 (fun f => f)).trans HB.out
          have h2 := (hks.out.same Bs (.inl rfl)).trans h1
          simp [World.cell?, h2]
        by_cases hlt : k < N
        · have hkn : k < (pairsL M.known).length := by rw [HN.out]; exact hlt
          obtain ⟨g, cur, rfl, hgW, hg2, hcur⟩ := HG.out k hkn
          have hno : ¬ Owned box w3 g := fun hw => by
            obtain ⟨u, hu, hku⟩ := hw
            have h1 : w3.heap[box]? = w.heap[box]? := (HK03.out.block box (by have := HKW.out.size; have := HBX.out; omega) (fun f => f)).trans (HKW.out.block box HBX.out (fun f => f))
            rw [World.cell?_of_block (w := w) (w' := w3) (a := ⟨box, 0, none⟩) h1] at hu
            exact HOW.out g ⟨u, hu, hku⟩
          have hgr : wr.heap[g]? = some (.cells cur 35 (0, 0)) := hks.out.x.block g _ (by have := HKW.out.size; omega) hg2 rfl hno
          have hc : wr.cell? ⟨g, k, none⟩ = some (.int .u64 ((pairsL M.known)[k].1 : Nat)) := by simp [World.cell?, hgr, hcur]
          have hlk := HI.out.known.look (pairsL M.known)[k].1 false wr hmr
          have hx2 : (getA (pairsL M.known)[k].1 M.known).getD 0 = (pairsL M.known)[k].2 := by simp [pairsL]
          simp only [Bool.false_eq_true, if_false] at hlk
          rw [hx2] at hlk
          obtain ⟨fn, tmps, assign, body, hy, hR⟩ := HY.out ((pairsL M.known).take k) (pairsL M.known)[k] wr hJs trivial (by rw [← List.take_succ_eq_append_getElem hkn]; exact List.take_prefix _ _)
          have HT : Hid ((pairsL M.known).take k ++ [(pairsL M.known)[k]] = (pairsL M.known).take (k + 1)) := Lib.hid (List.take_succ_eq_append_getElem hkn).symm
          have HR := Lib.hid hR
          unfold valP at hy
          generalize (pairsL M.known)[k] = x at *
          clear hcur hg2 hgr hno hR h1 hx2
          gi_wp2
          refine ⟨fun _ => by omega, HR.out.mono ?_⟩
          rintro e w4 (⟨rfl, hJ3, hk3⟩ | ⟨rfl, hJx3⟩)
          · rw [HT.out] at hJ3
            have hks3 := Lib.hid (hks.out.trans hk3)
            gi_wp2
            go_roundw
            case rel => exact ⟨k + 1, by omega, by go_num, hJ3, hks3⟩
            case measure => simp [intOf]; omega
          · rw [HT.out] at hJx3
            gi_wp2
            refine bodyPost_ret (results_none rfl _ _ _) rfl ?_
            exact ⟨⟨_, rfl⟩, .inr ⟨_, List.take_prefix _ _, hJx3⟩⟩
        · rw [List.take_of_length_le (by have := HN.out; omega)] at hJs
          gi_wp2
          go_end0
          exact ⟨⟨_, rfl⟩, .inl ⟨_, rfl, hJs⟩⟩
    · obtain ⟨q, hq, hek, hev⟩ := hIr.known.rel.mem e he
      have hkN := keyN_of hek
      obtain ⟨W4, hW4⟩ : ∃ X, w3.alloc (.cells #[.int .u64 q.1] 35) = X := ⟨_, rfl⟩
      have hk4 : Kept (fun _ => False) w3 W4 := by rw [← hW4]; exact (Kept.refl _ _).alloc _
      have hs4 : W4.heap.size = w3.heap.size + 1 := by rw [← hW4]; simp
      have h40 : W4.cell? ⟨w3.heap.size, 0, none⟩ = some (.int .u64 q.1) := by rw [← hW4, World.cell?_alloc_new]; rfl
      have hvle := hi.le
      have hes := hIr.known.size
      have hsm := hIr.small.2.2.2.2
      have ho4 : OwnI (W.heap.size + 1) W4 (.slice la vis.length lc) (vis.map keyN) := ownsRow_keptI (ownsRow_keptI ho hk3 (fun g hg _ e => by have : g = W.heap.size := e; omega)) hk4 (fun _ _ _ f => f)
      obtain ⟨v', w', hrun, ho', hg', hob⟩ := ho4.push (by omega) ⟨w3.heap.size, 0, none⟩ q.1 h40 (by rw [List.length_map]; omega)
      have hvb : ∀ g', (Value.slice la vis.length lc).ownBlock = some g' → W.heap.size + 1 ≤ g' := fun g' e => (World.ownsRow.lt ho g' e).1
      obtain ⟨oa, oc, hov, -, -⟩ := ho'.form
      rw [List.length_append, hvl] at hov
      subst hov
      have HF := Lib.hid (And.intro hkN (And.intro hk3 (And.intro hk4 (And.intro ho' (And.intro hg' (And.intro hvb (And.intro hi3 (And.intro hs4 hsz3))))))))
      have hkq : e.key = .int .u64 q.1 := hek
      rw [hkq] at hn hen
      clear hkN hk3 hk4 ho' hg' hvb hi3 ho4 hob hek hs4 hsz3 hes hvl hsm hvle
      go_wp2_with (at_builtin; refine wpList_append_run rfl (.tmp 18) (.tmp 20) #[75, 75] rfl _ _ _ _ rfl rfl hrun ?_)
      obtain ⟨hkN, hk3, hk4, ho', hg', hvb, hi3, hs4, hsz3⟩ := HF.out
      have hkg : Kept (fun k => (Value.slice la vis.length lc).ownBlock = some k) W4 w' := Kept.grown (F := fun k => (Value.slice la vis.length lc).ownBlock = some k) (Kept.refl _ _) hg' (fun k hk _ => hk.symm ▸ rfl)
      have hr' : w'.heap[W.heap.size]? = w3.heap[W.heap.size]? := (hkg.block _ (by omega) (fun e => by have := hvb _ e; omega)).trans (hk4.block _ (by omega) (fun f => f))
      go_roundw
      case rel =>
        refine ⟨vis ++ [e], oa, oc, by rw [List.length_append]; rfl, hi3.kept hr', ?_, ?_, by have := hkg.size; omega⟩
        · rw [List.map_append, List.map_cons, List.map_nil, hkN, List.length_append]
          exact ho'
        · exact ((hkr.trans hk3 (fun i hi e => by have : i = W.heap.size := e; omega)).trans hk4 (fun _ _ f => f)).trans hkg (fun i hi e => by have := hvb i e; omega)
      case measure =>
        have h1 := hi.seen
        have h3 : iterSeen w' W.heap.size = (vis ++ [e]).length := (hi3.kept hr').seen
        rw [h1, h3]
        have h4 := hi3.le
        simp only [List.length_append, List.length_cons, List.length_nil] at h4 ⊢
        omega
end Go.Proofs.YtemilbemdlpkaaaGreatDoor

/- espalierlaw18: all, pairs. -/
namespace Go.Proofs.YtemilbemdlpkaaaGreatDoor
open Go.RowKit Go.Shelf
set_option linter.unusedSimpArgs false
attribute [local go_sem] Oper.semAt_some

theorem OwnP.push3 {b : Nat} {w : World} {v : Value} {l : List (Nat × Nat)} (h : OwnP b w v l) (hk0 : b ≤ w.heap.size) (a : Addr) (p : Nat × Nat) (h0 : w.cell? a = some (.int .u64 p.1)) (h1 : w.cell? (a.add 1) = some (.int .u64 p.2)) (hl : l.length + 1 ≤ 1000000000000) :
    ∃ v' w', (Builtin.append_ #[22, 22] 22 #[v, .slice (some a) 1 1]).run Tryz.prog w = .ok v' w' ∧ OwnP b w' v' (l ++ [p]) ∧ w.grownBy w' v.ownBlock ∧ (v'.ownBlock = v.ownBlock ∨ v'.ownBlock = some w.heap.size) := by
  obtain ⟨i0, hi, hz0, hz1, hz2⟩ := info_parts Tryz.info68
  obtain ⟨v', w', hrun, ho2, hg2, -, hb2⟩ := run_append_own_at (P := Tryz.prog) w b 22 22 68 i0 _ 2 16 Tryz.underlying22 hi hz0 hz1 hz2 rfl (by decide) _ _ _ h a 1 1 (encP p) rfl (by
    intro j u hu
    match j, hu with
    | 0, hu => cases hu; exact h0
    | 1, hu => cases hu; exact h1
    | j + 2, hu => simp [encP] at hu) (by intro u hu; simp [encP] at hu; rcases hu with rfl | rfl <;> rfl) (by unfold maxLen; omega) (by omega) hk0
  refine ⟨v', w', hrun, ?_, hg2, hb2⟩
  unfold OwnP
  rw [flatP_append, List.length_append, show flatP [p] = encP p from by simp [flatP]]
  exact ho2

set_option maxRecDepth 100000 in
set_option maxHeartbeats 1000000 in
theorem all18_any {w : World} {p : Nat} {jp dp : Value} {km : Nat} {kes : Array MapEntry} {kclk : Nat} {tv : Value} {ps : List PtM} {M : MP} (h : MemI w p jp dp km kes kclk tv ps M) :
    Calls Tryz.prog 14 #[.pointer (some ⟨p, 0, none⟩)] w fun e w' => ∃ v, e = .returned v ∧ OwnP w.heap.size w' v (pairsL M.known) ∧ Kept (fun _ => False) w w' := by
  obtain ⟨W5, hW5⟩ : ∃ W, w.alloc (.cells #[.slice none 0 0] 22) = W := ⟨_, rfl⟩
  have hk5 : Kept (fun _ => False) w W5 := by rw [← hW5]; exact (Kept.refl _ _).alloc _
  have hs5 : W5.heap.size = w.heap.size + 1 := by rw [← hW5]; simp
  have hb5 : W5.heap[w.heap.size]? = some (.cells #[.slice none 0 0] 22 (0, 0)) := by rw [← hW5]; exact World.alloc_heap_new _ _
  have HW5 := Lib.hid hW5
  have H5 := Lib.hid (And.intro hk5 (And.intro hs5 hb5))
  have hlen : (pairsL M.known).length ≤ 1000000 := by rw [pairsL_length]; have := h.small.2.2.2.2; omega
  clear hW5
  refine (callsIn_wide (n := 5)).1 ?_
  refine callsIn_of_wp_marks Tryz.func14 rfl trivial ?_ rfl
  refine (wpIn_wide (n := 5)).2 ?_
  simp only [Tryz.ntmps14, List.size_toArray, List.length_cons, List.length_nil, Nat.reduceAdd, Nat.reduceSub, Array.replicate_succ, Array.replicate_zero, List.push_toArray, List.append_toArray, List.nil_append, List.cons_append]
  go_wp2_with fail
  rw [HW5.out]
  refine (each_any18 W5 (some ⟨p, 0, none⟩)).mono ?_
  rintro e W6 ⟨rfl, hW6⟩
  have hk6 : Kept (fun _ => False) W5 W6 := by rw [hW6]; exact (Kept.refl _ _).alloc _
  have hs6 : W6.heap.size = w.heap.size + 2 := by rw [hW6]; simp [hs5]
  have hbs : W6.heap[w.heap.size + 1]? = some (.cells #[.pointer (some ⟨p, 0, none⟩)] 29 (0, 0)) := by rw [hW6, ← hs5]; exact World.alloc_heap_new _ _
  have hb6 : W6.heap[w.heap.size]? = some (.cells #[.slice none 0 0] 22 (0, 0)) := (hk6.block _ (by omega) (fun f => f)).trans hb5
  have hk06 := hk5.more hk6 (fun _ f => f.elim)
  have hI6 := h.keptN hk06
  have hnown : ∀ k, ¬ Owned w.heap.size W6 k := fun k ⟨u, hu, hku⟩ => by
    simp [World.cell?, hb6] at hu
    subst hu
    cases hku
  have HSEQ := Lib.hid (meach_seq 4 (by omega) (w.heap.size + 1) w.heap.size hI6 hbs (by omega) hnown)
  have hrl := (Array.getElem?_eq_some_iff.1 h.cell).1
  have hil := h.known.lt
  rw [hs5]
  clear hW6 hnown hI6 hk5 hk6 hbs hb5 H5
  go_wp2_with fail
  refine nameAct18 ?_
  intro A0 hA0
  refine (wpIn_wide (n := 5)).1 ?_
  refine wpIn_rangeV (by omega) (gf := 67) (lb := #[.pointer (some ⟨w.heap.size + 1, 0, none⟩)]) (by rw [hA0]; simp [Act.eval]) (enters_of Tryz.func67 (by kernel_rfl) rfl) HSEQ.out KeepZ.trans (keepZ_b (by omega) (fun k hk => by rcases hk with e | e | e <;> omega)) (fun _ => rfl)
    (fun pre W => (∃ v, W.heap[w.heap.size]? = some (.cells #[v] 22 (0, 0)) ∧ OwnP W6.heap.size W v pre) ∧ W6.heap.size ≤ W.heap.size ∧ Kept (fun i => i = w.heap.size) W6 W)
    (fun _ _ _ => False) ?hI (fun _ _ _ _ _ hs _ _ => hs) ⟨⟨_, hb6, OwnP.nil _ _⟩, Nat.le_refl _, Kept.refl _ _⟩ (fun _ _ _ _ _ _ _ => trivial)
    (fun x a' W => ∃ Bx, W6.heap.size ≤ Bx ∧ W.heap[Bx]? = some (.cells #[.int .u64 x.1, .int .u64 x.2] 68 (0, 0)) ∧ a' = { tmps := (A0.tmps.setIfInBounds 7 (valP x)).setIfInBounds 4 (.pointer (some ⟨Bx, 0, none⟩)), defers := [] }) ?hAx ?assign ?body ?done ?stop
  case hI =>
    rintro pre A B row ⟨⟨v, hb, ho⟩, hs, hk⟩ hg hr
    have hne : ∀ k, k < W6.heap.size → some k ≠ row := fun k hk e => by have := (hr k e.symm).1; omega
    have hkG : Kept (fun k => row = some k) A B := Kept.grown (F := fun k => row = some k) (Kept.refl _ _) hg (fun k hk _ => hk)
    refine ⟨⟨v, (hg.block _ (by omega) (hne _ (by omega))).trans hb, rowKept18 ho hkG (fun g e hf => ?_)⟩, Nat.le_trans hs hg.size, hk.grown hg (fun k e hk => absurd e.symm (hne k (by omega)))⟩
    obtain ⟨-, o, ho2, hc⟩ := hr g hf
    rcases ho.2 with ⟨rfl, -⟩ | ⟨g', cap, cur, rfl, -, hg', -⟩
    · cases e
    · cases e; rw [hg'] at ho2; cases ho2; cases hc
  case hAx =>
    rintro x a' s A B row ⟨Bx, hBx, hbX, ha⟩ hg hr
    refine ⟨Bx, hBx, (hg.block Bx (Array.getElem?_eq_some_iff.1 hbX).1 (fun e => ?_)).trans hbX, ha⟩
    obtain ⟨-, o, ho, hc⟩ := hr Bx e.symm
    rw [hbX] at ho; cases ho; cases hc
  case assign =>
    rintro l' pre x W K ⟨⟨v, hb, ho⟩, hs, hk⟩ hv hK
    obtain ⟨W', hW'⟩ : ∃ W', W.alloc (.cells #[.int .u64 x.1, .int .u64 x.2] 68) = W' := ⟨_, rfl⟩
    have hkA : Kept (fun _ => False) W W' := by rw [← hW']; exact (Kept.refl _ _).alloc _
    have hK' := hK { tmps := (A0.tmps.setIfInBounds 7 (valP x)).setIfInBounds 4 (.pointer (some ⟨W.heap.size, 0, none⟩)), defers := [] } W'
      (by rw [← hW']; exact (KeepsOthers.alloc _ _).from _) (KeepZ.of_kept hkA (by omega) (fun k hk => by rcases hk with e | e | e <;> omega))
      ⟨⟨v, (hkA.block _ (by omega) (fun f => f)).trans hb, rowKept18 ho hkA (fun _ _ f => f)⟩, Nat.le_trans hs hkA.size, hk.trans hkA (fun _ _ f => f.elim)⟩ trivial
      ⟨W.heap.size, hs, by rw [← hW']; exact World.alloc_heap_new W _, rfl⟩
    have HK := Lib.hid hK'
    clear hK hK' ho hb hk hkA
    subst hA0
    unfold valP at *
    simp only [List.setIfInBounds_toArray, List.set_cons_zero, List.set_cons_succ] at HK
    gi_wp2
    exact HK.out
  case body =>
    rintro l' pre x a' W hl' ⟨⟨v, hb, ho⟩, hs, hk⟩ - ⟨Bx, hBx, hbX, rfl⟩ hpre
    have h7 : pre.length + 1 ≤ (pairsL M.known).length := by simpa using hpre.length_le
    have hvc : W.cell? ⟨w.heap.size, 0, none⟩ = some v := by simp [World.cell?, hb]
    have hvf : W.frozen? ⟨w.heap.size, 0, none⟩ = false := by simp [World.frozen?, hb]
    obtain ⟨va, vc, rfl, -, -⟩ := ho.form
    have x0 : W.cell? ⟨Bx, 0, none⟩ = some (.int .u64 x.1) := by simp [World.cell?, hbX]
    have x1 : W.cell? ⟨Bx, 1, none⟩ = some (.int .u64 x.2) := by simp [World.cell?, hbX]
    obtain ⟨wA, hwA, hkA, hszA, hA0', hA1'⟩ := pair_new W x.1 x.2 68
    obtain ⟨v', w', hrun, ho', hgw, hob⟩ := OwnP.push3 (rowKept18 ho hkA (fun _ _ f => f)) (by omega) ⟨W.heap.size, 0, none⟩ x hA0' hA1' (by omega)
    obtain ⟨va', vc', rfl, -, -⟩ := ho'.form
    have hnb : ∀ k, (Value.slice va pre.length vc).ownBlock = some k → W6.heap.size ≤ k := fun k e => (World.ownsRow.lt ho k e).1
    have hbA := (hkA.block _ (Array.getElem?_eq_some_iff.1 hb).1 (fun f => f)).trans hb
    have hbw : w'.heap[w.heap.size]? = some (.cells #[.slice va pre.length vc] 22 (0, 0)) := (hgw.block _ (Array.getElem?_eq_some_iff.1 hbA).1 (fun e => by have := hnb _ e.symm; omega)).trans hbA
    have hwc : w'.cell? ⟨w.heap.size, 0, none⟩ = some (.slice va pre.length vc) := by simp [World.cell?, hbw]
    have hwf : w'.frozen? ⟨w.heap.size, 0, none⟩ = false := by simp [World.frozen?, hbw]
    have HP := Lib.hid (And.intro ho' (And.intro hgw (And.intro hob (And.intro hbw (And.intro hkA hnb)))))
    clear ho' hgw hob hbw hkA hnb hbA hA0' hA1'
    subst hA0
    unfold valP
    simp only [List.setIfInBounds_toArray, List.set_cons_zero, List.set_cons_succ]
    gi_wp2_with (gi_at_builtin; refine wpListIn_append_run rfl (.tmp 8) (.tmp 10) #[22, 22] rfl _ _ _ _ rfl rfl hrun ?_)
    obtain ⟨ho', hgw, hob, hbw, hkA, hnb⟩ := HP.out
    have hrow := rowKept18 ho hkA (fun _ _ f => f)
    have hbl := (Array.getElem?_eq_some_iff.1 hb).1
    have hkw : Kept (fun k => (Value.slice va pre.length vc).ownBlock = some k) wA w' := Kept.grown (F := fun k => (Value.slice va pre.length vc).ownBlock = some k) (Kept.refl _ _) hgw (fun k hk _ => hk)
    have hl1 : (pre ++ [x]).length = pre.length + 1 := by simp
    rw [hl1] at hob ho'
    have hko : KeepsOthers W (w'.setCell ⟨w.heap.size, 0, none⟩ (.slice va' (pre.length + 1) vc')) := by
      refine ((show KeepsOthers W wA from hwA ▸ KeepsOthers.alloc W _).trans (KeepsOthers.of_grownBy hgw fun j o ej hj => ?_)).trans (KeepsOthers.setCell _ _ _)
      rcases hrow.2 with ⟨e2, _⟩ | ⟨g, cap, cur, e2, _, hgb, _⟩
      · rw [e2] at ej; cases ej
      · rw [e2] at ej; cases ej; rw [hgb] at hj; cases hj; rfl
    have hkS := (Kept.refl (fun i => i = w.heap.size) w').setCell (p := ⟨w.heap.size, 0, none⟩) (fun _ => rfl) (.slice va' (pre.length + 1) vc')
    have hf := hko.from W6.heap.size
    have hkall : Kept (fun i => i = w.heap.size ∨ (Value.slice va pre.length vc).ownBlock = some i) W (w'.setCell ⟨w.heap.size, 0, none⟩ (.slice va' (pre.length + 1) vc')) := ((hkA.mono (fun _ _ f => f.elim)).trans hkw (fun i _ e => .inr e)).trans hkS (fun i _ e => .inl e)
    refine ⟨⟨hf.size, hf.same⟩, ⟨⟨Nat.le_trans hkA.size (Nat.le_trans hgw.size hkS.size), fun k o hk' ho2 _ hn => ?_, fun k ⟨u, hu, hku⟩ => ?_⟩, fun k hk' => ?_⟩, ⟨⟨_, heap_setCell_row (o := 0) hbw _, ?_⟩, Nat.le_trans hs (Nat.le_trans hkA.size (Nat.le_trans hgw.size hkS.size)), ?_⟩⟩
    · exact (hkall.block k (Array.getElem?_eq_some_iff.1 ho2).1 (fun e => by
        rcases e with e | e
        · omega
        · exact hn ⟨_, hvc, e⟩)).trans ho2
    · rw [World.cell?_setCell_same' _ _ _ (by rw [hwc]; rfl)] at hu
      cases hu
      rcases hob with e | e
      · rw [e] at hku; exact .inl ⟨_, hvc, hku⟩
      · rw [e] at hku; cases hku; exact .inr hkA.size
    · have hk7 : k < w.heap.size ∨ k = w.heap.size + 1 := by rcases hk' with e | e | e <;> omega
      exact hkall.block k (by omega) (fun e => by
        rcases e with e | e
        · omega
        · have := hnb k e; omega)
    · exact rowKept18 ho' hkS (fun g e hf => by
        have h8 := (World.ownsRow.lt ho' g e).1
        omega)
    · exact hk.trans hkall (fun i hi e => by
        rcases e with e | e
        · exact e
        · have := hnb i e; omega)
  case done =>
    rintro D xs W hD rfl ⟨⟨v, hb, ho⟩, hs, hk⟩ hK
    have hvc : W.cell? ⟨w.heap.size, 0, none⟩ = some v := by simp [World.cell?, hb]
    have HF := Lib.hid (And.intro ho (And.intro hk hK))
    have HKW := Lib.hid hk06
    clear ho hk hK
    subst hA0
    go_wp2_with fail
    obtain ⟨ho, hk, hK⟩ := HF.out
    refine ⟨by simp, .inl ⟨_, _, rfl, run_takeDeferred hK, ?_⟩⟩
    have hkD : Kept (· = D) W (W.putObj D (.deferred none)) := (Kept.refl _ _).grown (grownBy_putObj' W D (.deferred none)) (fun k e _ => by cases e; rfl)
    refine ⟨_, results_tmp rfl _ _ _, v, rfl, ?_, ?_⟩
    · refine OwnP.mono (rowKept18 ho hkD (fun g e he => ?_)) (by omega)
      obtain rfl : g = D := he
      rcases ho.2 with ⟨rfl, -⟩ | ⟨g', cap, cur, rfl, -, hg', -⟩
      · cases e
      · cases e; rw [hg'] at hK; cases hK
    · exact (HKW.out.more hk (fun i (e : i = w.heap.size) => by omega)).more hkD (fun i (e : i = D) => by omega)
  case stop =>
    rintro D cc pre W hD hS hf
    exact hf.elim
end Go.Proofs.YtemilbemdlpkaaaGreatDoor
