/- refs: the plain model of Set's loop. -/
import Derived.Test.YtjnhkepgoghogaaDoorNamE
import Derived.Test.YtjnhkepgoghogaaDoorRsK
import Derived.Test.YtjnhkepgoghogaaDoorJourD
namespace Go.Proofs.YtjnhkepgoghogaaDoor

theorem strB_data (s : ByteArray) : strB s.data.toList = s := by unfold strB; simp
/-! ### changes -/

/-- The state of Set's loop: the names met, the changes. -/
structure ScanS where
  met : List (ByteArray × Bool)
  cs : IdsL
/-- Set's loop: an error's number, and the changes. -/
def scanGo (S : IdsL) : IdsL → ScanS → Int × ScanS
  | [], st => (0, st)
  | c :: l, st =>
    if mayOf c.1 ≠ 0 then (mayOf c.1, st)
    else if (getA c.1 st.met).getD false = true then (5, st)
    else if c.2 = 0 ∧ getA c.1 S = none then (4, st)
    else scanGo S l ⟨putA c.1 true st.met, if (getA c.1 S).getD 0 = c.2 then st.cs else st.cs ++ [c]⟩
def payB (cs : IdsL) : List UInt8 := (cs.map fun c => textB c.1 ++ wordB c.2).flatten
theorem payB_snoc (cs : IdsL) (c : ByteArray × Nat) : payB (cs ++ [c]) = payB cs ++ (textB c.1 ++ wordB c.2) := by simp [payB]
def recOf (cs : IdsL) : List UInt8 := uintB cs.length ++ payB cs
/-- What Set does: its answer, the refs, the changes that are written. -/
def scanOf (S l : IdsL) : Int × ScanS := scanGo S l ⟨[], []⟩
/-- What holds in the loop. -/
structure ScanOk (S : IdsL) (st : ScanS) : Prop where
  sub : ∀ c ∈ st.cs, (getA c.1 st.met).getD false = true
  nodup : NodupA st.cs
  may : ∀ c ∈ st.cs, mayOf c.1 = 0
  there : ∀ c ∈ st.cs, c.2 = 0 → getA c.1 S ≠ none
  other : ∀ c ∈ st.cs, (getA c.1 S).getD 0 ≠ c.2
theorem ScanOk.start (S : IdsL) : ScanOk S ⟨[], []⟩ := ⟨by simp, by simp [NodupA], by simp, by simp, by simp⟩
theorem met_put (s k : ByteArray) (m : List (ByteArray × Bool)) : (getA k (putA s true m)).getD false = true ↔ k = s ∨ (getA k m).getD false = true := by
  by_cases hk : k = s
  · subst hk; simp [getA_putA_same]
  · simp [getA_putA_ne hk, hk]
theorem ScanOk.step {S : IdsL} {st : ScanS} (h : ScanOk S st) {c : ByteArray × Nat} (h1 : mayOf c.1 = 0) (h2 : ¬ (getA c.1 st.met).getD false = true) (h3 : ¬ (c.2 = 0 ∧ getA c.1 S = none)) :
    ScanOk S ⟨putA c.1 true st.met, if (getA c.1 S).getD 0 = c.2 then st.cs else st.cs ++ [c]⟩ := by
  split
  · exact ⟨fun x hx => (met_put _ _ _).2 (.inr (h.sub x hx)), h.nodup, h.may, h.there, h.other⟩
  · rename_i hne
    refine ⟨fun x hx => ?_, ?_, fun x hx => ?_, fun x hx => ?_, fun x hx => ?_⟩
    · rcases List.mem_append.1 hx with hx | hx
      · exact (met_put _ _ _).2 (.inr (h.sub x hx))
      · rw [List.mem_singleton.1 hx]; exact (met_put _ _ _).2 (.inl rfl)
    · show (List.map _ (st.cs ++ [c])).Nodup
      rw [List.map_append, List.nodup_append]
      refine ⟨h.nodup, by simp, ?_⟩
      rintro a ha b hb rfl
      simp only [List.map_cons, List.map_nil, List.mem_singleton] at hb
      obtain ⟨x, hx, rfl⟩ := List.mem_map.1 ha
      exact h2 (hb ▸ h.sub x hx)
    · rcases List.mem_append.1 hx with hx | hx
      · exact h.may x hx
      · rw [List.mem_singleton.1 hx]; exact h1
    · rcases List.mem_append.1 hx with hx | hx
      · exact h.there x hx
      · rw [List.mem_singleton.1 hx]; exact fun e1 e2 => h3 ⟨e1, e2⟩
    · rcases List.mem_append.1 hx with hx | hx
      · exact h.other x hx
      · rw [List.mem_singleton.1 hx]; exact hne
theorem scanGo_ok {S : IdsL} : ∀ {l : IdsL} {st : ScanS}, ScanOk S st → ScanOk S (scanGo S l st).2
  | [], _, h => h
  | c :: l, st, h => by
    rw [scanGo]
    by_cases h1 : mayOf c.1 ≠ 0
    · rw [if_pos h1]; exact h
    rw [if_neg h1]
    by_cases h2 : (getA c.1 st.met).getD false = true
    · rw [if_pos h2]; exact h
    rw [if_neg h2]
    by_cases h3 : c.2 = 0 ∧ getA c.1 S = none
    · rw [if_pos h3]; exact h
    rw [if_neg h3]
    exact scanGo_ok (h.step (by simpa using h1) h2 h3)
theorem scanOf_ok (S l : IdsL) : ScanOk S (scanOf S l).2 := scanGo_ok (ScanOk.start S)
theorem scanGo_len {S : IdsL} : ∀ {l : IdsL} {st : ScanS}, (scanGo S l st).2.cs.length ≤ st.cs.length + l.length
  | [], _ => by simp [scanGo]
  | c :: l, st => by
    rw [scanGo]
    by_cases h1 : mayOf c.1 ≠ 0
    · rw [if_pos h1]; simp
    rw [if_neg h1]
    by_cases h2 : (getA c.1 st.met).getD false = true
    · rw [if_pos h2]; simp
    rw [if_neg h2]
    by_cases h3 : c.2 = 0 ∧ getA c.1 S = none
    · rw [if_pos h3]; simp
    rw [if_neg h3]
    refine Nat.le_trans scanGo_len ?_
    simp only [List.length_cons]
    by_cases h4 : (getA c.1 S).getD 0 = c.2
    · rw [if_pos h4]; omega
    · rw [if_neg h4, List.length_append]; simp; omega
theorem scanGo_perm {S T : IdsL} (h : ∀ k, getA k S = getA k T) : ∀ (l : IdsL) (st : ScanS), scanGo S l st = scanGo T l st
  | [], _ => rfl
  | c :: l, st => by
    rw [scanGo, scanGo, h, scanGo_perm h l]
/-- How many refs there are then. -/
theorem length_layOne (l : IdsL) (c : ByteArray × Nat) : (layOne l c).length = if c.2 = 0 then (if (getA c.1 l).isSome then l.length - 1 else l.length) else if (getA c.1 l).isSome then l.length else l.length + 1 := by
  unfold layOne
  split
  · rw [length_delA]
  · rw [length_putA]
/-- Set's answer when the disk says nothing. -/
def setErr (S l : IdsL) : Int := if (scanOf S l).1 ≠ 0 then (scanOf S l).1 else if 64 < (layL S (scanOf S l).2.cs).length then 3 else 0
theorem scan_self {S : IdsL} (hn : NodupA S) (hm : ∀ p ∈ S, mayOf p.1 = 0 ∧ p.2 ≠ 0) : ∀ (l : IdsL) (st : ScanS), (∀ p ∈ l, p ∈ S) → NodupA l → (∀ p ∈ l, ¬ (getA p.1 st.met).getD false = true) → (scanGo S l st).1 = 0 ∧ (scanGo S l st).2.cs = st.cs
  | [], _, _, _, _ => ⟨rfl, rfl⟩
  | c :: l, st, h1, h2, h3 => by
    have hc := h1 c (by simp)
    have hg : getA c.1 S = some c.2 := getA_of_mem hn (show (c.1, c.2) ∈ S from hc)
    have h2' := h2
    simp only [NodupA, List.map_cons, List.nodup_cons] at h2'
    rw [scanGo, if_neg (by simp [(hm c hc).1]), if_neg (h3 c (by simp)), if_neg (fun e => (hm c hc).2 e.1), hg]
    simp only [Option.getD_some, if_true]
    refine scan_self hn hm l _ (fun p hp => h1 p (by simp [hp])) h2'.2 (fun p hp => ?_)
    rw [met_put]
    rintro (e | e)
    · exact h2'.1 (e ▸ List.mem_map_of_mem hp)
    · exact h3 p (by simp [hp]) e
end Go.Proofs.YtjnhkepgoghogaaDoor
