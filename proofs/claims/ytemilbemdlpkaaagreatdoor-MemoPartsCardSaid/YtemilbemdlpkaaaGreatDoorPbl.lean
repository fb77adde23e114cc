/- memo: lay. -/
import Derived.Test.YtemilbemdlpkaaaGreatDoorPbk
namespace Go.Proofs.YtemilbemdlpkaaaGreatDoor
open Go.RowKit Go.ChangeMaps Go.MapKept
set_option linter.unusedSimpArgs false

def recordB2 (k : Nat) (ns : List Nat) : List UInt8 := uintB k ++ ns.flatMap uintB
theorem recordB2_snoc (k : Nat) (ns : List Nat) (n : Nat) : recordB2 k (ns ++ [n]) = recordB2 k ns ++ uintB n := by simp [recordB2, List.flatMap_append, List.append_assoc]
theorem uintB_short (n : Nat) (h : n ≤ 4294967296) : (uintB n).length ≤ 5 := uintB_len n 5 (by omega) (by omega)
theorem recordB2_len (k : Nat) (ns : List Nat) (hk : k ≤ 100) (h : ∀ n ∈ ns, n ≤ 4294967296) : (recordB2 k ns).length ≤ 5 + ns.length * 5 := by
  have h1 := uintB_short k (by omega)
  induction ns with
  | nil => simp [recordB2]; omega
  | cons n ns ih =>
    have h2 := uintB_short n (h n (by simp))
    have h3 := ih (fun x hx => h x (by simp [hx]))
    simp only [recordB2, List.flatMap_cons, List.length_append, List.length_cons] at h3 ⊢
    omega

theorem recordB_len25 (p : List UInt8) (h : p.length ≤ 25) : (recB p).length ≤ 36 := by
  have := recB_length p (by omega)
  omega
theorem DM.raw_writes18 {D D' : DM} (h : D.raw = some D') : D'.writes = D.writes + 1 := by
  unfold DM.raw at h
  split at h
  · split at h
    · cases h
    · cases h; rfl
  · cases h; rfl
theorem DM.pieces_writes (s : ByteArray) : ∀ (n : Nat) (bs : List UInt8) (D : DM), bs.length ≤ n → (DM.pieces s bs D).2.writes ≤ D.writes + bs.length
  | 0, bs, D, h => by
    have : bs = [] := List.length_eq_zero_iff.1 (by omega)
    subst this
    rw [DM.pieces_nil]; simp
  | n + 1, bs, D, h => by
    by_cases hb : bs = []
    · subst hb
      rw [DM.pieces_nil]; simp
    · have hpos := List.length_pos_iff.2 hb
      cases hr : D.raw with
      | none => rw [DM.pieces_no hb hr]; simp only []; omega
      | some D' =>
        rw [DM.pieces_step hb hr (k := 32) (.inl rfl)]
        have h1 := DM.pieces_writes s n (bs.drop 32) (D'.put s (D'.bytes s ++ bs.take 32)) (by rw [List.length_drop]; omega)
        have h2 := DM.raw_writes18 hr
        have h3 : (D'.put s (D'.bytes s ++ bs.take 32)).writes = D'.writes := rfl
        rw [List.length_drop, h3] at h1
        omega
theorem DM.append_writes (D : DM) (s : ByteArray) (bs : List UInt8) : (D.append s bs).2.writes ≤ D.writes + bs.length + 1 := by
  unfold DM.append
  split
  · simp only []; omega
  · split
    · simp only []; omega
    · split
      · simp only []; omega
      · split
        · cases hr : D.raw with
          | none => simp only []; omega
          | some D' =>
            have h2 := DM.raw_writes18 hr
            simp only [DM.put]
            omega
        · have := DM.pieces_writes s bs.length bs D (Nat.le_refl _)
          omega
/-- What lay leaves. -/
def LayEnd (w : World) (a : MAd) (ps : List PtM) (O : Int × DM × JM × MP) (w' : World) : Prop :=
  ∃ a', MemR w' a' O.2.1 O.2.2.1 O.2.2.2 ∧ a'.p = a.p ∧ a'.km = a.km ∧ a'.j = a.j ∧ a'.b = a.b ∧ a'.m = a.m ∧ a'.kes = a.kes ∧ a'.kclk = a.kclk ∧ (∀ k, a'.F k → a.F k ∨ w.heap.size ≤ k) ∧ Kept a.F w w' ∧
    ((O.1 ≠ 0 ∧ a'.tv = a.tv ∧ a'.ps = a.ps) ∨ (O.1 = 0 ∧ (∀ g, a'.tv.ownBlock = some g → w.heap.size ≤ g) ∧ a'.ps = ps))
theorem LayEnd.after {w w1 w' : World} {a a1 : MAd} {ps : List PtM} {O : Int × DM × JM × MP} (h : LayEnd w1 a1 ps O w') (hp : a1.p = a.p ∧ a1.km = a.km ∧ a1.j = a.j ∧ a1.b = a.b ∧ a1.m = a.m ∧ a1.kes = a.kes ∧ a1.kclk = a.kclk ∧ a1.tv = a.tv ∧ a1.ps = a.ps)
    (hf : ∀ k, a1.F k → a.F k ∨ w.heap.size ≤ k) (hk : Kept a.F w w1) : LayEnd w a ps O w' := by
  obtain ⟨a', h1, h2, h3, h4, h5, h6, h7, h8, h9, h10, h11⟩ := h
  obtain ⟨p1, p2, p3, p4, p5, p6, p7, p8, p9⟩ := hp
  refine ⟨a', h1, h2.trans p1, h3.trans p2, h4.trans p3, h5.trans p4, h6.trans p5, h7.trans p6, h8.trans p7, fun k hF => ?_, hk.trans h10 (fun i hi hF => ?_), ?_⟩
  · rcases h9 k hF with h12 | h12
    · exact hf k h12
    · exact .inr (Nat.le_trans hk.size h12)
  · rcases hf i hF with h12 | h12
    · exact h12
    · omega
  · rcases h11 with ⟨e1, e2, e3⟩ | ⟨e1, e2, e3⟩
    · exact .inl ⟨e1, e2.trans p8, e3.trans p9⟩
    · exact .inr ⟨e1, fun g e => Nat.le_trans hk.size (e2 g e), e3⟩

set_option maxRecDepth 100000 in
set_option maxHeartbeats 1000000 in
theorem lay_any {w : World} {a : MAd} {D : DM} {J : JM} {M : MP} (h : MemR w a D J M) (hcut : J.cut = false) (B : Nat) (hT : TabB B w)
    (va : Option Addr) (vc : Nat) (bb : List UInt8) (hb : OwnB w (.slice va bb.length vc) bb) (hbs : ∀ g, (Value.slice va bb.length vc).ownBlock = some g → ¬ a.F g) (hbl : bb.length ≤ 4194304)
    (vo : Value) (os : List PtM) (ho : w.ownsRow 0 109 2 vo os.length (partsV os)) (hos : ∀ x ∈ os, OwnB w x.v x.bs ∧ (∀ g, x.v.ownBlock = some g → ¬ a.F g) ∧ x.n ≤ 4294967296 ∧ x.bs.length ≤ 4194304) (hol : os.length ≤ 3) (hvo : ∀ g, vo.ownBlock = some g → ¬ a.F g)
    (hl : M.last + 1 ≤ 4294967296) (hJ : J.all.length ≤ 4000000 ∧ J.size ≤ 4000000 ∧ J.recs.length ≤ 4000000) (hw : D.writes < 1000000000000000) :
    Calls Tryz.prog 102 #[.pointer (some ⟨a.p, 0, none⟩), .slice va bb.length vc, vo] w fun e w' => e = .returned (.int .i64 (layM D J M bb (os.map PtM.run)).1) ∧ LayEnd w a (⟨M.last + 1, .slice va bb.length vc, bb⟩ :: os) (layM D J M bb (os.map PtM.run)) w' := by
  obtain ⟨c0, c1, c2, c3, c4, c5, c6, cz⟩ := h.mem.fields
  have hfs := h.mem.small.2.2.2.1
  have hap := h.apart
  have HNM : Hid (∀ W, Kept (fun _ => False) w W → Calls Tryz.prog 94 #[.pointer (some ⟨a.p, 0, none⟩), .int .i64 (M.last + 1 : Nat)] W fun e w' => e = .returned (.string (runN M.file (M.last + 1))) ∧ Kept (fun _ => False) W w') := Lib.hid (fun W hW => runName_any B W a.p M.file (M.last + 1) (by omega) (hW.cell c2 (fun f => f)) (by omega) (hT.keptN hW))
  have HAP : Hid (∀ W, Kept (fun _ => False) w W → Calls Tryz.prog 17 #[.pointer (some ⟨a.b, 0, none⟩), .string (runN M.file (M.last + 1)), .slice va bb.length vc] W (EndD W a.b a.m a.es (D.append (runN M.file (M.last + 1)) bb).1 (D.append (runN M.file (M.last + 1)) bb).2)) := Lib.hid (fun W hW =>
    append_any (h.jour.disk.kept hW (fun _ _ f => f)) (by have := runN_size M.file (M.last + 1) (by omega) (by omega); unfold maxLen; omega) va vc bb (hb.isB.keptF hW (fun _ _ f => f)) (fun _ g e hd => hbs g e (.inr (.inr (.inr (.inr (.inr hd)))))) (by omega))
  have hnn : IntKind.i64.wrap ((M.last : Int) + 1) = ((M.last + 1 : Nat) : Int) := by rw [IntKind.wrap_i64]; omega
  obtain ⟨O, hO⟩ : ∃ O, layM D J M bb (os.map PtM.run) = O := ⟨_, rfl⟩
  rw [hO]
  have hO2 : O = layM D J M bb (os.map PtM.run) := hO.symm
  unfold layM at hO2
  have hrN : (M.last + 1) :: (os.map PtM.run).map (·.n) = (M.last + 1) :: os.map (·.n) := by rw [List.map_map]; rfl
  rw [hrN] at hO2
  obtain ⟨nm, hnm⟩ : ∃ nm, runN M.file (M.last + 1) = nm := ⟨_, rfl⟩
  rw [hnm] at HNM HAP hO2
  obtain ⟨⟨er, D2⟩, hq⟩ : ∃ q, D.append nm bb = q := ⟨_, rfl⟩
  have HDW : Hid (D2.writes < 2305843009213693952) := Lib.hid (by have := DM.append_writes D nm bb; rw [hq] at this; simp only at this; omega)
  rw [hq] at HAP hO2
  simp only at HAP hO2
  have HO := Lib.hid hO2
  have HH := Lib.hid (And.intro h (And.intro hb (And.intro hbs (And.intro ho (And.intro hos (And.intro hvo (And.intro hcut hJ)))))))
  obtain ⟨nl, hnl⟩ : ∃ nl, M.last + 1 = nl := ⟨_, rfl⟩
  have hnn2 : IntKind.i64.wrap ((M.last : Int) + 1) = (nl : Int) := by rw [hnn, hnl]
  have HNL := Lib.hid hnl
  obtain ⟨oa, oc, rfl⟩ : ∃ oa oc, vo = .slice oa os.length oc := by
    rcases ho.2 with ⟨h1, h0⟩ | ⟨g, cap, cur, h1, _, _, hn, hm, _⟩
    · exact ⟨none, 0, by rw [h1, h0]⟩
    · exact ⟨_, cap, h1⟩
  rw [hnl] at HNM HO ⊢
  obtain ⟨bl, hbl2⟩ : ∃ n, bb.length = n := ⟨_, rfl⟩
  rw [hbl2] at HAP HH ⊢
  have HBL := Lib.hid hbl2
  obtain ⟨ol, hol2⟩ : ∃ n, os.length = n := ⟨_, rfl⟩
  rw [hol2] at HH hol ⊢
  have HOL := Lib.hid hol2
  have HBO := Lib.hid hbl
  clear hnn hO hO2 hq hnm hnl hap hfs hb hbs ho hos hvo h hbl2 hol2 c1 c2 c3 c4 c6 hbl hcut hJ hrN
  have cz5 := cz 5
  clear cz
  go_enter Tryz.func102, Tryz.ntmps102
  go_wp2_with fail
  go_region_held (fun w' => w'.cell? ⟨a.p, 0, none⟩ = some (.pointer (some ⟨a.b, 0, none⟩)))
    (first | exact c0 | exact hS5 | exact hS6)
    (first | (go_at_call 94; refine (HNM.out _ (drew_kept _)).mono ?_; rintro e' w5 ⟨rfl, hk5⟩; have hS5 := hk5.cell c0 (fun f => f)) | (go_at_call 17; refine (HAP.out w5 ((drew_kept w).trans hk5 (fun _ _ f => f))).mono ?_; rintro e' w6 ⟨rfl, es6, clk6, hA6⟩; have hS6 := hA6.kept.cell hS5 (fun hd => HH.out.1.apart.1 (.inr (.inr (.inr hd))))))
  have hk05 : Kept (fun _ => False) w w5 := (drew_kept w).trans hk5 (fun _ _ f => f)
  have HR5 := HH.out.1.keptN hk05
  have HR6 : Hid (MemR w6 { a with es := es6, clock := clk6 } D2 J M) := Lib.hid (HR5.turn (HR5.jour.over hA6.disk hA6.foot hA6.kept) (fun k hk => by
    rcases hk with e | e | e | e
    · exact .inl (.inl e)
    · exact .inl (.inr (.inl e))
    · exact .inl (.inr (.inr (.inl e)))
    · rcases hA6.foot k e with h1 | h1
      · exact .inl (.inr (.inr (.inr h1)))
      · exact .inr h1) (hA6.kept.mono (fun _ _ e => .inr (.inr (.inr e)))))
  have HF6 : Hid (∀ k, MAd.F { a with es := es6, clock := clk6 } k → a.F k ∨ w.heap.size ≤ k) := Lib.hid (by
    rintro k (e | e | e | e | e | e)
    · exact .inl (.inl e)
    · exact .inl (.inr (.inl e))
    · exact .inl (.inr (.inr (.inl e)))
    · exact .inl (.inr (.inr (.inr (.inl e))))
    · exact .inl (.inr (.inr (.inr (.inr (.inl e)))))
    · rcases hA6.foot k e with h1 | h1
      · exact .inl (.inr (.inr (.inr (.inr (.inr h1)))))
      · exact .inr (Nat.le_trans hk05.size h1))
  have HK6 : Hid (Kept a.F w w6) := Lib.hid ((hk05.mono (fun _ _ f => f.elim)).trans hA6.kept (fun _ _ e => .inr (.inr (.inr (.inr (.inr e))))))
  have HW2 : Hid (D2.writes < 2305843009213693952) := Lib.hid (HDW.out)
  clear hA6 hk5 hk05 HR5 hS5 hS6 HNM HAP
  by_cases her : er = 0
  · have her0 : (er != 0) = false := by simp [her]
    have HO1 : Hid (O = if (J.put D2 (recordB (nl :: os.map (·.n)))).1 ≠ 0 then ((J.put D2 (recordB (nl :: os.map (·.n)))).1, (J.put D2 (recordB (nl :: os.map (·.n)))).2.1, (J.put D2 (recordB (nl :: os.map (·.n)))).2.2, M) else (0, (J.put D2 (recordB (nl :: os.map (·.n)))).2.1, (J.put D2 (recordB (nl :: os.map (·.n)))).2.2, { M with parts := ⟨nl, bb⟩ :: os.map PtM.run, last := nl })) := Lib.hid (by rw [HO.out, if_neg (by simp [her])])
    clear her HO
    obtain ⟨W7, hW7⟩ : ∃ X, w6.alloc (.cells #[.int .i64 (nl : Int), .slice va bl vc] 109) = X := ⟨_, rfl⟩
    have hk7 : Kept (fun _ => False) w6 W7 := by rw [← hW7]; exact (Kept.refl _ _).alloc _
    have hs7 : W7.heap.size = w6.heap.size + 1 := by rw [← hW7]; simp
    have hone := parts_one w6 nl (.slice va bl vc)
    rw [hW7] at hone
    have hos7 : W7.ownsRow 0 109 2 (.slice oa ol oc) os.length (partsV os) := by
      rw [HOL.out]
      exact rowKept18 (rowKept18 HH.out.2.2.2.1 HK6.out (fun g e => HH.out.2.2.2.2.2.1 g e)) hk7 (fun _ _ f => f)
    obtain ⟨v9, w8, hrun, hrow, hg8, hb8⟩ := parts_app (l := [⟨nl, .slice va bl vc, []⟩]) (m := os) hone (by omega) hos7 (fun x hx => by obtain ⟨a, c, h1, -⟩ := (HH.out.2.2.2.2.1 x hx).1.form; exact ⟨a, _, c, h1⟩) (by have := HOL.out; simp; omega)
    obtain ⟨K, hK⟩ : ∃ K, ol + 1 = K := ⟨_, rfl⟩
    have hlen : [(⟨nl, .slice va bl vc, []⟩ : PtM)].length + os.length = K := by rw [HOL.out]; simp; omega
    rw [hlen] at hrow
    obtain ⟨pa, pc, rfl⟩ : ∃ pa pc, v9 = .slice pa K pc := by
      rcases hrow.2 with ⟨h1, h0⟩ | ⟨g, cap, cur, h1, _, _, hn, hm, _⟩
      · omega
      · exact ⟨_, cap, h1⟩
    have hk8 : Kept (fun _ => False) w6 w8 := hk7.more (Kept.grown (F := fun k => k = w6.heap.size) (Kept.refl _ _) hg8 (fun k hk _ => by cases hk; rfl)) (fun i e => by have : i = w6.heap.size := e; omega)
    have HPV : Hid (∀ g, (Value.slice pa K pc).ownBlock = some g → w6.heap.size ≤ g) := Lib.hid (fun g e => (World.ownsRow.lt hrow g e).1)
    have HROW : Hid (w8.ownsRow 0 109 2 (.slice pa K pc) K (partsV (⟨nl, .slice va bl vc, bb⟩ :: os))) := Lib.hid (by
      have e1 : partsV (⟨nl, .slice va bl vc, bb⟩ :: os) = partsV ([⟨nl, .slice va bl vc, []⟩] ++ os) := partsV_congr rfl
      rw [e1]
      exact ownsRow_base_a hrow (Nat.zero_le _))
    have HK8 := Lib.hid hk8
    have HPU := Lib.hid (putUint_any w8 (.slice none 0 0) [] K (by omega) ⟨none, 0, rfl, Nat.le_refl _, by simp [maxLen], .inl rfl⟩ (by simp))
    have hcv : IntKind.u64.wrap (K : Int) = (K : Int) := by rw [IntKind.wrap_u64]; omega
    clear hk7 hs7 hone hos7 hrow hg8 hb8 hlen hk8
    go_wp2_with (at_builtin; refine wpList_append_run rfl (.tmp 34) (.tmp 35) #[90, 90] rfl _ _ _ _ rfl rfl hrun ?_)
    refine HPU.out.mono ?_
    rintro e w9 ⟨v10, rfl, hf9⟩
    rw [List.nil_append] at hf9
    obtain ⟨ra9, rc9, hr9, -, -⟩ := hf9.own.form
    subst hr9
    obtain ⟨ls, hls⟩ : ∃ ls : List PtM, (⟨nl, .slice va bl vc, bb⟩ :: os) = ls := ⟨_, rfl⟩
    have hlsl : ls.length = K := by rw [← hls, List.length_cons, HOL.out]; exact hK
    have HLS : Hid (∀ x ∈ ls, (OwnB w x.v x.bs ∧ (∀ g, x.v.ownBlock = some g → ¬ a.F g)) ∧ x.n ≤ 4294967296 ∧ x.bs.length ≤ 4194304) := Lib.hid (fun x hm => by
      rw [← hls] at hm
      rcases List.mem_cons.1 hm with rfl | hm
      · refine ⟨⟨by have := HH.out.2.1; rw [← HBL.out] at this ⊢; exact this, HH.out.2.2.1⟩, by have := HNL.out; show nl ≤ _; omega, by have := HBL.out; have := HBO.out; show bb.length ≤ _; omega⟩
      · obtain ⟨q1, q2, q3, q4⟩ := HH.out.2.2.2.2.1 _ hm
        exact ⟨⟨q1, q2⟩, q3, q4⟩)
    have HNS : Hid (nl :: os.map (·.n) = ls.map (·.n)) := Lib.hid (by rw [← hls]; rfl)
    rw [hls] at HROW
    have HLL := Lib.hid hlsl
    have HLSE := Lib.hid hls
    have HK1 := Lib.hid hK
    have hf0 : recordB2 K [] = uintB K := by simp [recordB2]
    rw [← hf0] at hf9
    have HF9 := Lib.hid hf9
    obtain ⟨rl9, hrl9⟩ : ∃ n, (recordB2 K []).length = n := ⟨_, rfl⟩
    have hrl9b : (uintB K).length = rl9 := by rw [← hf0, hrl9]
    rw [hrl9] at HF9
    have HRL9 : Hid ((recordB2 K ((ls.map (·.n)).take 0)).length = rl9) := Lib.hid (by rw [List.take_zero]; exact hrl9)
    rw [hrl9b]
    clear hf0 hf9 hlsl hrl9 hrl9b hcv HPU hrun hW7
    go_wp2_with fail
    go_loopg [10, 43] K (fun g rv iv wr => ∃ (k rl : Nat) (ra : Option Addr) (rc : Nat), k + g = K ∧ iv = .int .i64 k ∧ rv = .slice ra rl rc ∧ Hid ((recordB2 K ((ls.map (·.n)).take k)).length = rl) ∧ Hid (FreshB w8 (.slice ra rl rc) (recordB2 K ((ls.map (·.n)).take k)) wr))
    case atStart => exact ⟨0, rl9, ra9, rc9, by omega, rfl, rfl, HRL9, HF9⟩
    case round =>
      obtain ⟨k, rl, ra, rc, hkg, rfl, rfl, HRL, HFR⟩ := hrel
      rcases Nat.eq_zero_or_pos gk with rfl | hpos
      · obtain rfl : k = K := by omega
        have HREC : Hid (recordB2 k ((ls.map (·.n)).take k) = recordB (nl :: os.map (·.n))) := Lib.hid (by
          rw [List.take_of_length_le (by rw [List.length_map, HLL.out]; exact Nat.le_refl _), ← HNS.out]
          have e1 : (nl :: os.map (·.n)).length = k := by rw [HNS.out, List.length_map, HLL.out]
          unfold recordB2 recordB
          rw [e1])
        have hkr : Kept (fun _ => False) w6 wr := HK8.out.more HFR.out.kept (fun _ f => f.elim)
        have hJr := HR6.out.jour.keptN hkr
        have hrlen : (recordB2 k ((ls.map (·.n)).take k)).length ≤ 25 := by
          have := recordB2_len k ((ls.map (·.n)).take k) (by omega) (fun n hn => by
            obtain ⟨x, hx, rfl⟩ := List.mem_map.1 (List.mem_of_mem_take hn)
            exact (HLS.out x hx).2.1)
          rw [List.length_take, List.length_map, HLL.out] at this
          omega
        have hrb := recordB_len25 (recordB2 k ((ls.map (·.n)).take k)) hrlen
        have hAPJ := jappend_any hJr HH.out.2.2.2.2.2.2.1 ra rc (recordB2 k ((ls.map (·.n)).take k)) (by rw [HRL.out]; exact HFR.out.own.isB) (fun g e hd => by
          rw [HRL.out] at e
          have h1 := HFR.out.new g e
          have h2 := HR6.out.jour.disk.lt g hd
          have h3 := HK8.out.size
          omega) (by omega) (by have := HH.out.2.2.2.2.2.2.2.1; omega) (by have := HH.out.2.2.2.2.2.2.2.2.1; omega) (by have := HH.out.2.2.2.2.2.2.2.2.2; omega) HW2.out
        rw [HRL.out, HREC.out] at hAPJ
        have HAPJ := Lib.hid hAPJ
        have hc1 : wr.cell? ⟨a.p, 1, none⟩ = some (.pointer (some ⟨a.j, 0, none⟩)) := hkr.cell HR6.out.mem.fields.2.1 (fun f => f)
        have HKR := Lib.hid hkr
        obtain ⟨R, hR⟩ : ∃ R, J.put D2 (recordB (nl :: os.map (·.n))) = R := ⟨_, rfl⟩
        rw [hR] at HAPJ HO1
        clear hJr hrlen hrb hAPJ hkr hR
        obtain ⟨e2, D3, J3⟩ := R
        simp only at HAPJ HO1
        go_wp2_with fail
        refine HAPJ.out.mono ?_
        rintro e w11 ⟨rfl, es', clk', av', pv', hj', hf', hk'⟩
        have hR11 := (HR6.out.keptN HKR.out).turn hj' hf' hk'
        have hF11 : ∀ i, MAd.F { a with es := es', clock := clk', av := av', pv := pv' } i → a.F i ∨ w.heap.size ≤ i := by
          rintro i (e | e | e)
          · exact .inl (.inl e)
          · exact .inl (.inr (.inl e))
          · rcases hf' i e with h1 | h1
            · exact HF6.out i (.inr (.inr h1))
            · exact .inr (Nat.le_trans (Nat.le_trans HK6.out.size HKR.out.size) h1)
        have hkw : Kept a.F w wr := HK6.out.trans HKR.out (fun _ _ f => f.elim)
        have hK11 : Kept a.F w w11 := hkw.trans hk' (fun i hi e => by
          rcases HF6.out i (.inr (.inr e)) with h1 | h1
          · exact h1
          · omega)
        have HS11 := Lib.hid (And.intro hR11 (And.intro hF11 (And.intro hK11 (And.intro hf' hk'))))
        clear hj' hf' hk' hR11 hF11 hkw hK11 hc1
        by_cases h2 : e2 = 0
        · have h2b : (e2 != 0) = false := by simp [h2]
          have HO2 : Hid (O = (0, D3, J3, { M with parts := ⟨nl, bb⟩ :: os.map PtM.run, last := nl })) := Lib.hid (by rw [HO1.out, if_neg (by simp [h2])])
          obtain ⟨-, -, -, -, d4, d5, -, dz⟩ := HS11.out.1.mem.fields
          have dz4 := dz 4
          have dz5 := dz 5
          clear h2 dz HO1
          go_wp2
          go_ret
          rw [HO2.out]
          obtain ⟨hR11, hF11, hK11, hf', hk'⟩ := HS11.out
          obtain ⟨w12, hw12⟩ : ∃ X, (w11.setCell ⟨a.p, 4, none⟩ (.slice pa k pc)).setCell ⟨a.p, 5, none⟩ (.int .i64 (nl : Int)) = X := ⟨_, rfl⟩
          have hk12 : Kept (fun i => i = a.p) w11 w12 := by rw [← hw12]; exact ((Kept.refl (fun i => i = a.p) w11).setCell (p := ⟨a.p, 4, none⟩) (fun _ => rfl) _).setCell (p := ⟨a.p, 5, none⟩) (fun _ => rfl) _
          have hc12 : w12.heap[a.p]? = some (.cells #[.pointer (some ⟨a.b, 0, none⟩), .pointer (some ⟨a.j, 0, none⟩), .string M.file, .map (some a.km), .slice pa k pc, .int .i64 (nl : Int), .bool M.dead] 92 (0, 0)) := by
            rw [← hw12, heap_setCell_row (heap_setCell_row hR11.mem.cell _)]
            simp
          have ap := hR11.apart
          have hkall : Kept (fun i => jourF a.j a.b a.m es6 a.av a.pv i ∨ i = a.p) wr w12 := (hk'.mono (fun _ _ e => .inl e)).trans hk12 (fun _ _ e => .inr e)
          have hpw : a.p < w6.heap.size := (Array.getElem?_eq_some_iff.1 HR6.out.mem.cell).1
          have hrow12 : w12.ownsRow 0 109 2 (.slice pa k pc) ls.length (partsV ls) := by
            rw [HLL.out]
            refine rowKept18 (rowKept18 HROW.out HFR.out.kept (fun _ _ f => f)) hkall (fun g e hf => ?_)
            have h1 := HPV.out g e
            rcases hf with hf | hf
            · have := HR6.out.jour.lt g hf; omega
            · omega
          have hbytes : ∀ x ∈ ls, OwnB w12 x.v x.bs := fun x hx => by
            obtain ⟨⟨q1, q2⟩, -⟩ := HLS.out x hx
            refine OwnB.kept (OwnB.kept q1 (fun g e => ((HK6.out.trans HKR.out (fun _ _ f => f.elim)).block g (q1.lt g e) (q2 g e)))) (fun g e => hkall.block g (Nat.lt_of_lt_of_le (q1.lt g e) (Nat.le_trans HK6.out.size HKR.out.size)) (fun hf => ?_))
            rcases hf with hf | hf
            · rcases HF6.out g (.inr (.inr hf)) with h1 | h1
              · exact q2 g e h1
              · have := q1.lt g e; omega
            · exact q2 g e (.inl hf)
          have hparts : (⟨nl, bb⟩ :: os.map PtM.run : List RunP) = ls.map PtM.run := by rw [← HLSE.out]; rfl
          have hsm := hR11.mem.small
          rw [hw12]
          refine ⟨rfl, { a with es := es', clock := clk', av := av', pv := pv', tv := .slice pa k pc, ps := ls }, ⟨hR11.jour.kept hk12 (fun i hi (e : i = a.p) => by subst e; exact ap.1 hi), ⟨hc12, hR11.mem.known.kept hk12 (fun (e : a.km = a.p) => ap.2.2.2 e.symm), hrow12, hbytes, hparts, ?_⟩, hR11.kmm, fun x hx g e hF => ?_⟩, rfl, rfl, rfl, rfl, rfl, rfl, rfl, hF11, hK11.trans hk12 (fun i _ (e : i = a.p) => Or.inl e), .inr ⟨rfl, fun g e => Nat.le_trans HK6.out.size (HPV.out g e), HLSE.out.symm⟩⟩
          · exact ⟨by rw [HLL.out]; omega, fun x hx => ⟨(HLS.out x hx).2.1, (HLS.out x hx).2.2⟩, by have := HNL.out; show nl ≤ _; omega, hsm.2.2.2⟩
          · obtain ⟨⟨q1, q2⟩, -⟩ := HLS.out x hx
            rcases hF11 g (.inr (.inr hF)) with h1 | h1
            · exact q2 g e h1
            · have := q1.lt g e; omega
        · have h2b : (e2 != 0) = true := by simp [h2]
          have HO2 : Hid (O = (e2, D3, J3, M)) := Lib.hid (by rw [HO1.out, if_pos h2])
          have HE2 := Lib.hid h2
          clear h2 HO1
          go_wp2
          go_ret
          rw [HO2.out]
          obtain ⟨hR11, hF11, hK11, -, -⟩ := HS11.out
          exact ⟨rfl, _, hR11, rfl, rfl, rfl, rfl, rfl, rfl, rfl, hF11, hK11, .inl ⟨HE2.out, rfl, rfl⟩⟩
      · have hlt : k < K := by omega
        have hkl : k < ls.length := by rw [HLL.out]; exact hlt
        have hrow := rowKept18 HROW.out HFR.out.kept (fun _ _ f => f)
        rw [← HLL.out] at hrow
        obtain ⟨g, rfl, hg, -, e0, e1⟩ := parts_at hrow hkl
        obtain ⟨⟨⟨q1, -⟩, q3, -⟩⟩ := And.intro (HLS.out ls[k] (List.getElem_mem hkl)) trivial
        obtain ⟨xa, xc, hxv, -, -⟩ := q1.form
        have hT : (ls.map (·.n)).take (k + 1) = (ls.map (·.n)).take k ++ [ls[k].n] := by
          rw [List.take_succ_eq_append_getElem (by rw [List.length_map]; exact hkl), List.getElem_map]
        obtain ⟨xl, hxl⟩ : ∃ n, ls[k].bs.length = n := ⟨_, rfl⟩
        rw [hxv, hxl] at e1
        obtain ⟨x, hx⟩ : ∃ x, ls[k].n = x := ⟨_, rfl⟩
        rw [hx] at e0 q3 hT
        have HTK := Lib.hid hT
        obtain ⟨WA, hWA⟩ : ∃ X, wr.alloc (.cells #[.int .i64 (x : Int), .slice xa xl xc] 109) = X := ⟨_, rfl⟩
        have hkA : Kept (fun _ => False) wr WA := by rw [← hWA]; exact (Kept.refl _ _).alloc _
        have hA0 : WA.cell? ⟨wr.heap.size, 0, none⟩ = some (.int .i64 (x : Int)) := by rw [← hWA, World.cell?_alloc_new]; rfl
        have HPU2 := Lib.hid (putUint_any WA (.slice ra rl rc) (recordB2 K ((ls.map (·.n)).take k)) x (by omega) (HFR.out.own.isB.keptF hkA (fun _ _ f => f)) (by
          have := recordB2_len K ((ls.map (·.n)).take k) (by omega) (fun n hn => by
            obtain ⟨x, hx, rfl⟩ := List.mem_map.1 (List.mem_of_mem_take hn)
            exact (HLS.out x hx).2.1)
          rw [List.length_take, List.length_map, HLL.out] at this
          omega))
        rw [← recordB2_snoc, ← HTK.out] at HPU2
        have hcx : IntKind.u64.wrap (x : Int) = (x : Int) := by rw [IntKind.wrap_u64]; omega
        have HKA := Lib.hid hkA
        clear hrow q1 hxv hT hxl hx hkA hkl
        go_wp2_with fail
        refine HPU2.out.mono ?_
        rintro e w10 ⟨v, rfl, hf⟩
        obtain ⟨ra', rc', hr', -, -⟩ := hf.own.form
        subst hr'
        have HF := Lib.hid ((hf.behind HKA.out).behind HFR.out.kept)
        obtain ⟨rl', hrl'⟩ : ∃ n, (recordB2 K ((ls.map (·.n)).take (k + 1))).length = n := ⟨_, rfl⟩
        rw [hrl'] at HF ⊢
        have HRL' := Lib.hid hrl'
        clear hf hrl'
        go_wp2_with fail
        go_roundg (gk - 1)
        case measure => omega
        case rel => exact ⟨k + 1, rl', ra', rc', by omega, by go_num, rfl, HRL', HF⟩
  · have her0 : (er != 0) = true := by simp [her]
    have HO2 : Hid (O = (er, D2, J, M)) := Lib.hid (by rw [HO.out, if_pos her])
    have HER := Lib.hid her
    clear her
    go_wp2
    go_ret
    rw [HO2.out]
    exact ⟨rfl, _, HR6.out, rfl, rfl, rfl, rfl, rfl, rfl, rfl, HF6.out, HK6.out, .inl ⟨HER.out, rfl, rfl⟩⟩
end Go.Proofs.YtemilbemdlpkaaaGreatDoor
