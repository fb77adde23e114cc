/- Refs, the plain law: the document's With and Set are the program's. -/
import Derived.Test.YtjnhkepgoghogaaGreatDoorRqH
import Derived.Test.YtjnhkepgoghogaaGreatDoorRsM
import Derived.Test.YtjnhkepgoghogaaGreatDoorRsP
namespace Go.Proofs.YtjnhkepgoghogaaGreatDoor

theorem lessB_eq : ∀ (x y : List UInt8), Op.bytesLess x y = decide (x < y)
  | [], [] => by simp [Op.bytesLess]
  | _ :: _, [] => by simp [Op.bytesLess]
  | [], _ :: _ => by simp [Op.bytesLess]
  | a :: x, b :: y => by
    rw [Op.bytesLess, lessB_eq x y]
    simp only [List.cons_lt_cons_iff]
    by_cases h1 : a < b <;> by_cases h2 : a = b <;> by_cases h3 : x < y <;> simp [h1, h2, h3]
theorem gtS_iff (x c : ByteArray) : gtS x c = true ↔ c.data.toList < x.data.toList := by
  unfold gtS
  rw [lessB_eq, Lib.toList_data, Lib.toList_data]
  simp only [Bool.and_eq_true, Bool.not_eq_true', decide_eq_false_iff_not, beq_eq_false_iff_ne, ne_eq]
  refine ⟨fun ⟨h1, h2⟩ => ?_, fun h => ⟨fun h2 => List.lt_irrefl _ (List.lt_trans h h2), fun e => by rw [e] at h; exact List.lt_irrefl _ h⟩⟩
  exact (List.le_iff_lt_or_eq.1 (show c.data.toList ≤ x.data.toList from h1)).resolve_right (fun e => h2 e.symm)
theorem gtS_trans {a b c : ByteArray} (h1 : gtS a b = true) (h2 : gtS b c = true) : gtS a c = true := by
  rw [gtS_iff] at *; exact List.lt_trans h2 h1
theorem gtS_irrefl (a : ByteArray) : gtS a a = false := by
  cases h : gtS a a with
  | false => rfl
  | true => exact absurd ((gtS_iff a a).1 h) (List.lt_irrefl _)
theorem gtS_total {a b : ByteArray} (h : a ≠ b) (h1 : gtS a b = false) : gtS b a = true := by
  rw [gtS_iff]
  have h2 : ¬ b.data.toList < a.data.toList := fun e => by rw [(gtS_iff a b).2 e] at h1; cases h1
  refine (List.le_iff_lt_or_eq.1 (show a.data.toList ≤ b.data.toList from h2)).resolve_right (fun e => h ?_)
  cases a; cases b; congr; exact Array.ext' e

/-- Rising names. -/
def RiseL (l : IdsL) : Prop := l.Pairwise (fun a b => gtS b.1 a.1 = true)
theorem RiseL.nodup {l : IdsL} (h : RiseL l) : NodupA l := by
  unfold NodupA
  rw [List.Nodup, List.pairwise_map]
  exact h.imp (fun {a b} hab e => by rw [e, gtS_irrefl] at hab; cases hab)
theorem RiseL.eq_of_perm {l m : IdsL} (h : RiseL l) (h' : RiseL m) (hp : l.Perm m) : l = m := by
  refine List.Perm.eq_of_pairwise (le := fun (a b : ByteArray × Nat) => gtS b.1 a.1 = true) (fun a b _ _ h1 h2 => ?_) h h' hp
  have := gtS_trans h1 h2
  rw [gtS_irrefl] at this; cases this
theorem allOf_names (S : IdsL) : (allOf S).map (·.1) = (namesOf S).map strB := by unfold allOf; rw [List.map_map]; rfl
theorem allOf_rise {S : IdsL} (h : NodupA S) : RiseL (allOf S) := by
  have h1 : (namesOf S).Pairwise (fun a b => decide (a ≤ b) = true) :=
    List.pairwise_mergeSort (fun a b c h1 h2 => by simp only [decide_eq_true_eq] at *; exact List.le_trans h1 h2) (fun a b => by simp only [Bool.or_eq_true, decide_eq_true_eq]; exact List.le_total a b) _
  have h2 : (namesOf S).Nodup := by
    have h3 := allOf_nodup h
    unfold NodupA at h3
    rw [allOf_names] at h3
    exact nodup_of_map _ h3
  unfold RiseL allOf
  rw [List.pairwise_map]
  refine (h1.and h2).imp (fun {a b} hab => ?_)
  rw [gtS_iff]
  simp only [decide_eq_true_eq] at hab
  exact (List.le_iff_lt_or_eq.1 hab.1).resolve_right hab.2
theorem RiseL.allOf {S l : IdsL} (h : RiseL l) (hp : l.Perm S) : l = allOf S := by
  have hS : NodupA S := h.nodup.perm hp
  exact h.eq_of_perm (allOf_rise hS) (hp.trans (allOf_self hS).symm)

theorem withGo_laid (c : ByteArray × Nat) : ∀ (l out : IdsL), withGo c (true, out) l = (true, out ++ l.filter (fun x => decide (x.1 ≠ c.1)))
  | [], out => by simp [withGo]
  | x :: l, out => by
    rw [withGo, Bool.true_or, withGo_laid c l]
    by_cases h : x.1 = c.1 <;> simp [h]
theorem withGo_not (c : ByteArray × Nat) : ∀ (l out : IdsL), RiseL l → withEnd c (withGo c (false, out) l) = out ++ l.filter (fun x => gtS c.1 x.1) ++ [c] ++ l.filter (fun x => gtS x.1 c.1)
  | [], out, _ => by simp [withGo, withEnd]
  | x :: l, out, h => by
    have h1 := List.pairwise_cons.1 h
    rw [withGo]
    by_cases hg : gtS x.1 c.1 = true
    · have hall : ∀ y ∈ l, gtS y.1 c.1 = true := fun y hy => gtS_trans (h1.1 y hy) hg
      have hnc : gtS c.1 x.1 = false := by
        cases h5 : gtS c.1 x.1 with
        | false => rfl
        | true => have := gtS_trans h5 hg; rw [gtS_irrefl] at this; cases this
      have hne : x.1 ≠ c.1 := fun e => by rw [e, gtS_irrefl] at hg; cases hg
      have e1 : l.filter (fun x => decide (x.1 ≠ c.1)) = l := List.filter_eq_self.2 (fun y hy => by
        have := hall y hy
        simp only [decide_eq_true_eq]
        exact fun e => by rw [e, gtS_irrefl] at this; cases this)
      have e2 : l.filter (fun x => gtS x.1 c.1) = l := List.filter_eq_self.2 hall
      have e3 : l.filter (fun x => gtS c.1 x.1) = [] := List.filter_eq_nil_iff.2 (fun y hy e => by
        have := gtS_trans e (hall y hy)
        rw [gtS_irrefl] at this; cases this)
      rw [hg, Bool.false_or, withGo_laid, e1, List.filter_cons_of_neg (by simp [hnc]), e3, List.filter_cons_of_pos (by simpa using hg), e2]
      simp [withEnd, hne]
    · have hgf : gtS x.1 c.1 = false := by simpa using hg
      rw [hgf, Bool.false_or, withGo_not c l _ h1.2]
      by_cases he : x.1 = c.1
      · simp [he, gtS_irrefl]
      · simp [he, hgf, gtS_total he hgf]
theorem getA_filter (p : ByteArray → Bool) (k : ByteArray) : ∀ l : IdsL, getA k (l.filter (fun x => p x.1)) = if p k = true then getA k l else none
  | [] => by simp [getA]
  | x :: l => by
    by_cases hx : p x.1 = true
    · rw [List.filter_cons_of_pos (by simpa using hx), getA_cons, getA_cons, getA_filter p k l]
      by_cases hk : x.1 = k
      · rw [if_pos hk, if_pos hk, if_pos (hk ▸ hx)]
      · rw [if_neg hk, if_neg hk]
    · rw [List.filter_cons_of_neg (by simpa using hx), getA_filter p k l, getA_cons]
      by_cases hk : x.1 = k
      · rw [← hk, if_neg hx, if_neg hx]
      · rw [if_neg hk]
theorem withL_rise {l : IdsL} (h : RiseL l) (c : ByteArray × Nat) : RiseL (withL l c) := by
  unfold withL
  by_cases hz : c.2 = 0
  · rw [decide_eq_true hz, withGo_laid]
    simp only [withEnd, List.nil_append]
    exact h.filter _
  · rw [decide_eq_false hz, withGo_not c l [] h, List.nil_append]
    unfold RiseL
    rw [List.append_assoc, List.pairwise_append]
    refine ⟨h.filter _, ?_, ?_⟩
    · rw [List.singleton_append, List.pairwise_cons]
      exact ⟨fun y hy => (List.mem_filter.1 hy).2, h.filter _⟩
    · intro a ha b hb
      have h1 := (List.mem_filter.1 ha).2
      rcases List.mem_cons.1 hb with rfl | hb
      · exact h1
      · exact gtS_trans (List.mem_filter.1 hb).2 h1
theorem getA_withL {l : IdsL} (h : RiseL l) (c : ByteArray × Nat) (k : ByteArray) : getA k (withL l c) = if k = c.1 then (if c.2 = 0 then none else some c.2) else getA k l := by
  unfold withL
  by_cases hz : c.2 = 0
  · rw [decide_eq_true hz, withGo_laid]
    simp only [withEnd, List.nil_append, if_true]
    refine (getA_filter (fun y => decide (y ≠ c.1)) k l).trans ?_
    by_cases hk : k = c.1 <;> simp [hk, hz]
  · rw [decide_eq_false hz, withGo_not c l [] h, List.nil_append, List.append_assoc, getA_append, List.singleton_append, getA_cons,
      getA_filter (fun y => gtS c.1 y), getA_filter (fun y => gtS y c.1)]
    by_cases hk : k = c.1
    · subst hk; simp [gtS_irrefl, hz]
    · rw [if_neg hk, if_neg (Ne.symm hk)]
      cases h1 : gtS c.1 k with
      | true =>
        rw [if_pos rfl]
        have h2 : gtS k c.1 = false := by
          cases h5 : gtS k c.1 with
          | false => rfl
          | true => have := gtS_trans h5 h1; rw [gtS_irrefl] at this; cases this
        rw [h2]
        cases getA k l <;> rfl
      | false =>
        rw [gtS_total (Ne.symm hk) h1]
        simp
/-- The document's With, over the list that is told. -/
theorem withL_allOf {S : IdsL} (h : NodupA S) (c : ByteArray × Nat) : withL (allOf S) c = allOf (layOne S c) := by
  have hr := withL_rise (allOf_rise h) c
  refine hr.allOf (perm_of_get hr.nodup (layOne_nodup h c) (fun k => ?_))
  rw [getA_withL (allOf_rise h), getA_layOne h, get_of_perm (allOf_nodup h) (allOf_self h)]
theorem getL_allOf {S : IdsL} (h : NodupA S) (s : ByteArray) : getL s (allOf S) = (getA s S).getD 0 := by
  unfold getL; rw [get_of_perm (allOf_nodup h) (allOf_self h)]
theorem rsetGo_scan {S : IdsL} (h : NodupA S) (hz : ∀ p ∈ S, p.2 ≠ 0) : ∀ (l pre : IdsL) (st : ScanS), ScanOk S st → (∀ k, (getA k st.met).getD false = true ↔ ∃ x ∈ pre, x.1 = k) →
    (rsetGo (allOf S) pre ⟨allOf (layL S st.cs), st.cs⟩ l).1 = (scanGo S l st).1 ∧ (rsetGo (allOf S) pre ⟨allOf (layL S st.cs), st.cs⟩ l).2 = ⟨allOf (layL S (scanGo S l st).2.cs), (scanGo S l st).2.cs⟩
  | [], _, _, _, _ => ⟨rfl, rfl⟩
  | c :: l, pre, st, hc, hm => by
    have hmay : mayOf c.1 = if (pathOf c.1).1 ≠ 0 then (pathOf c.1).1 else if c.1 = ⟨#[]⟩ then 2 else 0 := rfl
    have hget : getL c.1 (allOf S) = 0 ↔ getA c.1 S = none := by
      rw [getL_allOf h]
      cases hg : getA c.1 S with
      | none => simp
      | some v => have := hz _ (getA_mem hg); simpa using this
    rw [rsetGo, scanGo]
    by_cases h1 : mayOf c.1 ≠ 0
    · have e : rstep (allOf S) pre c = mayOf c.1 := by
        unfold rstep
        rw [hmay] at h1 ⊢
        by_cases h2 : (pathOf c.1).1 ≠ 0
        · rw [if_pos h2, if_pos h2]
        · rw [if_neg h2] at h1 ⊢
          rw [if_neg h2]
          by_cases h3 : c.1 = ⟨#[]⟩
          · rw [if_pos h3, if_pos h3]
          · rw [if_neg h3] at h1; exact absurd rfl h1
      rw [e, if_pos h1, if_pos h1]
      exact ⟨rfl, rfl⟩
    rw [if_neg h1]
    have h2 : (pathOf c.1).1 = 0 ∧ ¬ c.1 = ⟨#[]⟩ := by
      rw [hmay] at h1
      by_cases h2 : (pathOf c.1).1 ≠ 0
      · rw [if_pos h2] at h1; exact absurd h2 h1
      · rw [if_neg h2] at h1
        refine ⟨by simpa using h2, fun h3 => ?_⟩
        rw [if_pos h3] at h1; exact h1 (by decide)
    have e : rstep (allOf S) pre c = if (getA c.1 st.met).getD false = true then 5 else if c.2 = 0 ∧ getA c.1 S = none then 4 else 0 := by
      unfold rstep
      rw [if_neg (by simpa using h2.1), if_neg h2.2]
      by_cases h3 : (getA c.1 st.met).getD false = true
      · rw [if_pos ((hm _).1 h3), if_pos h3]
      · rw [if_neg (fun e => h3 ((hm _).2 e)), if_neg h3]
        by_cases h4 : c.2 = 0 ∧ getA c.1 S = none
        · rw [if_pos ⟨h4.1, hget.2 h4.2⟩, if_pos h4]
        · rw [if_neg (fun e => h4 ⟨e.1, hget.1 e.2⟩), if_neg h4]
    rw [e]
    by_cases h3 : (getA c.1 st.met).getD false = true
    · rw [if_pos h3, if_pos (by decide), if_pos h3]; exact ⟨rfl, rfl⟩
    rw [if_neg h3, if_neg h3]
    by_cases h4 : c.2 = 0 ∧ getA c.1 S = none
    · rw [if_pos h4, if_pos (by decide), if_pos h4]; exact ⟨rfl, rfl⟩
    rw [if_neg h4, if_neg (by decide), if_neg h4]
    have hnx : rnext (allOf S) c ⟨allOf (layL S st.cs), st.cs⟩ = ⟨allOf (layL S (if (getA c.1 S).getD 0 = c.2 then st.cs else st.cs ++ [c])), if (getA c.1 S).getD 0 = c.2 then st.cs else st.cs ++ [c]⟩ := by
      unfold rnext
      rw [getL_allOf h]
      by_cases h5 : (getA c.1 S).getD 0 = c.2
      · rw [if_neg (by simpa using h5), if_pos h5]
      · rw [if_pos h5, if_neg h5, withL_allOf (layL_nodup h _), layL_snoc]
    rw [hnx]
    refine rsetGo_scan h hz l (pre ++ [c]) ⟨putA c.1 true st.met, if (getA c.1 S).getD 0 = c.2 then st.cs else st.cs ++ [c]⟩ (hc.step (by simpa using h1) h3 h4) (fun k => ?_)
    rw [met_put]
    constructor
    · rintro (e | e)
      · exact ⟨c, by simp, e.symm⟩
      · obtain ⟨x, hx, e2⟩ := (hm k).1 e
        exact ⟨x, by simp [hx], e2⟩
    · rintro ⟨x, hx, e2⟩
      rcases List.mem_append.1 hx with hx | hx
      · exact .inr ((hm k).2 ⟨x, hx, e2⟩)
      · rw [List.mem_singleton.1 hx] at e2; exact .inl e2.symm
/-- The document's Set, over the list that is told. -/
theorem rsetL_allOf {S : IdsL} (h : NodupA S) (hz : ∀ p ∈ S, p.2 ≠ 0) (l : IdsL) :
    rsetL (allOf S) l = if setErr S l = 0 then (0, allOf (layL S (scanOf S l).2.cs), (scanOf S l).2.cs) else (setErr S l, allOf S, []) := by
  have hg := rsetGo_scan h hz l [] ⟨[], []⟩ (ScanOk.start S) (fun k => by simp [getA])
  have hlen : (allOf (layL S (scanOf S l).2.cs)).length = (layL S (scanOf S l).2.cs).length := allOf_length
  have e0 : (⟨allOf (layL S []), []⟩ : SetS) = ⟨allOf S, []⟩ := rfl
  have hst : ((scanGo S l ⟨[], []⟩).2.cs) = (scanOf S l).2.cs := rfl
  rw [show (ScanS.mk [] []).cs = [] from rfl, e0, hst] at hg
  have hs1 : (scanGo S l ⟨[], []⟩).1 = (scanOf S l).1 := rfl
  rw [hs1] at hg
  unfold rsetL setErr
  obtain ⟨⟨e, st⟩, hq⟩ : ∃ q, rsetGo (allOf S) [] ⟨allOf S, []⟩ l = q := ⟨_, rfl⟩
  rw [hq] at hg ⊢
  obtain ⟨rfl, rfl⟩ := hg
  unfold rsetEnd
  simp only
  by_cases h1 : (scanOf S l).1 ≠ 0
  · rw [if_pos h1, if_pos h1, if_neg h1]
  · rw [if_neg h1, if_neg h1, hlen]
    by_cases h2 : 64 < (layL S (scanOf S l).2.cs).length
    · rw [if_pos h2, if_pos h2, if_neg (by decide)]
    · rw [if_neg h2, if_neg h2, if_pos rfl]
/-- What Set puts into the file. -/
theorem set_recs {D : DM} {J : JM} {S l : IdsL} (he : setErr S l = 0) (h0 : (setR D J S l).1 = 0) (hc : (scanOf S l).2.cs ≠ []) : (setR D J S l).2.2.1.recs = J.recs ++ [recOf (scanOf S l).2.cs] := by
  unfold setErr at he
  unfold setR setOf at h0 ⊢
  by_cases h1 : (scanOf S l).1 ≠ 0
  · rw [if_pos h1] at he; exact absurd he h1
  rw [if_neg h1] at he h0 ⊢
  by_cases h2 : 64 < (layL S (scanOf S l).2.cs).length
  · rw [if_pos h2] at he; cases he
  rw [if_neg h2, if_neg hc] at h0 ⊢
  by_cases h3 : (J.put D (recOf (scanOf S l).2.cs)).1 = 0
  · rw [if_pos h3]
    simp only
    unfold JM.put at h3 ⊢
    split at h3
    · rename_i h4; rw [if_pos h4]; rfl
    · rename_i h4; exact absurd h3 h4
  · rw [if_neg h3] at h0; exact absurd h0 h3
end Go.Proofs.YtjnhkepgoghogaaGreatDoor
