/- The ledger's laws: adding entry by entry into a sorted list is the same as the totals by a map and a sort. -/
import Derived.Test.YtljofbhokcdklaaVPa
import Derived.Test.YtljofbhokcdklaaVSt
import Derived.Sort.Walk0
set_option linter.unusedVariables false
set_option linter.unusedSimpArgs false
namespace VM
open Go
abbrev Key := List UInt8
abbrev Ent := Key × Int × Unit
def EntOk (e : Ent) : Prop := I64 e.2.1

theorem ltS_eq (a b : Key) : ltS a b = decide (a < b) := Go.Proofs.bytesLess_eq a b
theorem key_irrefl (a : Key) : ¬ a < a := List.lt_irrefl a
theorem key_trans {a b c : Key} (h : a < b) (h' : b < c) : a < c := List.lt_trans h h'
theorem key_tri {a b : Key} (h : ¬ a < b) (h' : ¬ b < a) : a = b := List.le_antisymm (List.not_lt.1 h') (List.not_lt.1 h)
theorem key_asymm {a b : Key} (h : a < b) : ¬ b < a := fun h' => key_irrefl a (key_trans h h')
theorem key_ne {a b : Key} (h : a < b) : a ≠ b := fun e => key_irrefl a (by rw [← e] at h; exact h)

def addE : List Ent → Key → Int → List Ent
  | [], a, n => if n = 0 then [] else [(a, n, ())]
  | e :: l, a, n => if e.1 < a then e :: addE l a n else if e.1 = a then (if IntKind.wrap .i64 (n + e.2.1) = 0 then l else (a, IntKind.wrap .i64 (n + e.2.1), ()) :: l) else (if n = 0 then e :: l else (a, n, ()) :: e :: l)
def getE : List Ent → Key → Int
  | [], _ => 0
  | e :: l, a => if e.1 = a then e.2.1 else getE l a
def SA (l : List Ent) : Prop := l.Pairwise fun x y => x.1 < y.1
def NZ (l : List Ent) : Prop := ∀ e ∈ l, e.2.1 ≠ 0
def AllI (l : List Ent) : Prop := ∀ e ∈ l, EntOk e

theorem getE_low {l : List Ent} {a : Key} (h : ∀ e ∈ l, a < e.1) : getE l a = 0 := by
  induction l with
  | nil => rfl
  | cons e l ih =>
    have := key_ne (h e (by simp))
    rw [getE, if_neg (Ne.symm this)]
    exact ih fun x hx => h x (by simp [hx])

theorem mem_addE {l : List Ent} {a : Key} {n : Int} {x : Ent} (h : x ∈ addE l a n) : x ∈ l ∨ (x.1 = a ∧ x.2.1 ≠ 0 ∧ (x.2.1 = n ∨ ∃ m, x.2.1 = IntKind.wrap .i64 m)) := by
  induction l with
  | nil =>
    simp only [addE] at h
    split at h
    · simp at h
    · simp only [List.mem_singleton] at h; subst h; right; exact ⟨rfl, by assumption, .inl rfl⟩
  | cons e l ih =>
    simp only [addE] at h
    split at h
    · rcases List.mem_cons.1 h with rfl | h
      · left; simp
      · rcases ih h with h | h
        · left; simp [h]
        · right; exact h
    · split at h
      · split at h
        · left; simp [h]
        · rcases List.mem_cons.1 h with rfl | h
          · right; exact ⟨rfl, by assumption, .inr ⟨_, rfl⟩⟩
          · left; simp [h]
      · split at h
        · left; exact h
        · rcases List.mem_cons.1 h with rfl | h
          · right; exact ⟨rfl, by assumption, .inl rfl⟩
          · left; exact h

theorem addE_SA {l : List Ent} {a : Key} {n : Int} (h : SA l) : SA (addE l a n) := by
  induction l with
  | nil =>
    simp only [addE]
    split
    · exact List.Pairwise.nil
    · exact List.pairwise_singleton _ _
  | cons e l ih =>
    obtain ⟨h1, h2⟩ := List.pairwise_cons.1 h
    simp only [addE]
    split
    · next hlt =>
      refine List.pairwise_cons.2 ⟨fun x hx => ?_, ih h2⟩
      rcases mem_addE hx with hx | ⟨hx, _⟩
      · exact h1 x hx
      · rw [hx]; exact hlt
    · next hlt =>
      split
      · next he =>
        split
        · exact h2
        · refine List.pairwise_cons.2 ⟨fun x hx => ?_, h2⟩
          show a < x.1
          rw [← he]; exact h1 x hx
      · next he =>
        split
        · exact h
        · refine List.pairwise_cons.2 ⟨fun x hx => ?_, h⟩
          have hae : a < e.1 := by
            apply Classical.byContradiction
            intro hn
            exact he (key_tri hlt hn)
          rcases List.mem_cons.1 hx with rfl | hx
          · exact hae
          · exact key_trans hae (h1 x hx)
theorem addE_NZ {l : List Ent} {a : Key} {n : Int} (h : NZ l) : NZ (addE l a n) := by
  intro x hx
  rcases mem_addE hx with hx | ⟨_, hx, _⟩
  · exact h x hx
  · exact hx
theorem addE_I {l : List Ent} {a : Key} {n : Int} (h : AllI l) (hn : I64 n) : AllI (addE l a n) := by
  intro x hx
  rcases mem_addE hx with hx | ⟨_, _, hx | ⟨m, hx⟩⟩
  · exact h x hx
  · unfold EntOk; rw [hx]; exact hn
  · unfold EntOk; rw [hx]; exact wrap_I64 m

theorem getE_addE {l : List Ent} {a : Key} {n : Int} (h : SA l) (hn : I64 n) (b : Key) : getE (addE l a n) b = if b = a then IntKind.wrap .i64 (n + getE l a) else getE l b := by
  induction l with
  | nil =>
    simp only [addE, getE, Int.add_zero, hn.w]
    split
    · next h0 => subst h0; simp [getE]
    · simp only [getE]
      by_cases hb : b = a
      · simp [hb]
      · rw [if_neg (Ne.symm hb), if_neg hb]
  | cons e l ih =>
    obtain ⟨h1, h2⟩ := List.pairwise_cons.1 h
    simp only [addE]
    split
    · next hlt =>
      have hne := key_ne hlt
      simp only [getE, if_neg hne, ih h2]
      by_cases hb : b = a
      · subst hb; simp [hne]
      · simp [hb]
    · next hlt =>
      split
      · next he =>
        subst he
        simp only [getE, if_true]
        split
        · next h0 =>
          rw [h0]
          by_cases hb : b = e.1
          · subst hb; rw [if_pos rfl]; exact getE_low h1
          · rw [if_neg hb, if_neg (Ne.symm hb)]
        · simp only [getE]
          by_cases hb : b = e.1
          · subst hb; simp
          · rw [if_neg (Ne.symm hb), if_neg hb, if_neg (Ne.symm hb)]
      · next he =>
        have hae : a < e.1 := Classical.byContradiction fun hn => he (key_tri hlt hn)
        have h0 : getE (e :: l) a = 0 := getE_low fun x hx => by
          rcases List.mem_cons.1 hx with rfl | hx
          · exact hae
          · exact key_trans hae (h1 x hx)
        rw [h0, Int.add_zero, hn.w]
        split
        · next hz =>
          subst hz
          by_cases hb : b = a
          · subst hb; rw [if_pos rfl]; exact h0
          · rw [if_neg hb]
        · by_cases hb : b = a
          · subst hb; simp [getE]
          · rw [if_neg hb]; simp only [getE]; rw [if_neg (Ne.symm hb)]

theorem getE_mem {l : List Ent} {a : Key} (h : getE l a ≠ 0) : ∃ e ∈ l, e.1 = a := by
  induction l with
  | nil => exact absurd rfl h
  | cons e l ih =>
    rw [getE] at h
    split at h
    · exact ⟨e, by simp, by assumption⟩
    · obtain ⟨x, h1, h2⟩ := ih h; exact ⟨x, by simp [h1], h2⟩

theorem ext_SA : ∀ {l m : List Ent}, SA l → SA m → NZ l → NZ m → (∀ b, getE l b = getE m b) → l = m
  | [], [], _, _, _, _, _ => rfl
  | [], e :: m, _, _, _, h4, h => by
    have := h e.1
    simp only [getE, if_true] at this
    exact absurd this.symm (h4 e (by simp))
  | e :: l, [], _, _, h3, _, h => by
    have := h e.1
    simp only [getE, if_true] at this
    exact absurd this (h3 e (by simp))
  | e :: l, f :: m, h1, h2, h3, h4, h => by
    obtain ⟨k1, k2⟩ := List.pairwise_cons.1 h1
    obtain ⟨m1, m2⟩ := List.pairwise_cons.1 h2
    have hne : e.1 = f.1 := by
      apply key_tri
      · intro hlt
        have h0 : getE (f :: m) e.1 = 0 := getE_low fun x hx => by
          rcases List.mem_cons.1 hx with rfl | hx
          · exact hlt
          · exact key_trans hlt (m1 x hx)
        have := h e.1
        rw [h0] at this
        simp only [getE, if_true] at this
        exact h3 e (by simp) this
      · intro hlt
        have h0 : getE (e :: l) f.1 = 0 := getE_low fun x hx => by
          rcases List.mem_cons.1 hx with rfl | hx
          · exact hlt
          · exact key_trans hlt (k1 x hx)
        have := h f.1
        rw [h0] at this
        simp only [getE, if_true] at this
        exact h4 f (by simp) this.symm
    have hef : e = f := by
      have := h e.1
      simp only [getE, if_true, hne] at this
      obtain ⟨a, n, u⟩ := e
      obtain ⟨b, o, v⟩ := f
      simp only at hne this
      subst hne
      subst this
      rfl
    subst hef
    congr 1
    refine ext_SA k2 m2 (fun x hx => h3 x (by simp [hx])) (fun x hx => h4 x (by simp [hx])) fun b => ?_
    by_cases hb : e.1 = b
    · subst hb
      rw [getE_low k1, getE_low m1]
    · have := h b
      simpa only [getE, if_neg hb] using this

/-- The sum of an account, as the machine adds. -/
def sumW (l : List Ent) (b : Key) : Int := l.foldl (fun s e => if e.1 = b then IntKind.wrap .i64 (s + e.2.1) else s) 0
theorem sumW_snoc (l : List Ent) (e : Ent) (b : Key) : sumW (l ++ [e]) b = if e.1 = b then IntKind.wrap .i64 (sumW l b + e.2.1) else sumW l b := by
  simp [sumW, List.foldl_append]

def adds (l : List Ent) : List Ent := l.foldl (fun r e => addE r e.1 e.2.1) []
theorem adds_snoc (l : List Ent) (e : Ent) : adds (l ++ [e]) = addE (adds l) e.1 e.2.1 := by simp [adds, List.foldl_append]

theorem snoc_ind {α : Type} {P : List α → Prop} (h0 : P []) (h1 : ∀ l x, P l → P (l ++ [x])) (l : List α) : P l := by
  have key : ∀ m : List α, P m.reverse := by
    intro m
    induction m with
    | nil => exact h0
    | cons x m ih => rw [List.reverse_cons]; exact h1 _ x ih
  simpa using key l.reverse

theorem adds_spec (l : List Ent) : AllI l → SA (adds l) ∧ NZ (adds l) ∧ AllI (adds l) ∧ ∀ b, getE (adds l) b = sumW l b := by
  refine snoc_ind (P := fun l => AllI l → SA (adds l) ∧ NZ (adds l) ∧ AllI (adds l) ∧ ∀ b, getE (adds l) b = sumW l b) ?_ ?_ l
  · exact fun _ => ⟨List.Pairwise.nil, by simp [NZ, adds], by simp [AllI, adds], fun b => rfl⟩
  · intro l e ih h
    obtain ⟨h1, h2, h3, h4⟩ := ih fun x hx => h x (by simp [hx])
    have he : I64 e.2.1 := h e (by simp)
    rw [adds_snoc]
    refine ⟨addE_SA h1, addE_NZ h2, addE_I h3 he, fun b => ?_⟩
    rw [getE_addE h1 he, sumW_snoc, h4, h4]
    by_cases hb : b = e.1
    · subst hb; rw [if_pos rfl, if_pos rfl, Int.add_comm]
    · rw [if_neg hb, if_neg (Ne.symm hb)]

/-! ### by a map and a sort -/
section
variable {α β : Type} [DecidableEq α]
theorem mfd_mput (l : List (α × β)) (a : α) (v : β) (b : α) (d : β) : mfd (mput l a v) b d = if b = a then v else mfd l b d := by
  induction l with
  | nil => by_cases h : b = a <;> simp [mput, mfd, h]
  | cons x l ih =>
    obtain ⟨p, q⟩ := x
    by_cases h : a = p
    · subst h
      by_cases hb : b = a <;> simp [mput, mfd, hb]
    · by_cases hb : b = p
      · subst hb
        have : ¬ b = a := fun e => h e.symm
        simp [mput, mfd, h, this]
      · simp [mput, mfd, h, hb, ih]
theorem mhas_mput (l : List (α × β)) (a : α) (v : β) (b : α) : mhas (mput l a v) b = (decide (b = a) || mhas l b) := by
  induction l with
  | nil => by_cases h : b = a <;> simp [mput, mhas, h]
  | cons x l ih =>
    obtain ⟨p, q⟩ := x
    by_cases h : a = p
    · subst h
      by_cases hb : b = a <;> simp [mput, mhas, hb]
    · by_cases hb : b = p
      · subst hb
        simp [mput, mhas, h]
      · simp [mput, mhas, h, hb, ih]
theorem mfd_not {l : List (α × β)} {b : α} {d : β} (h : mhas l b = false) : mfd l b d = d := by
  induction l with
  | nil => rfl
  | cons x l ih =>
    obtain ⟨p, q⟩ := x
    by_cases hb : b = p
    · simp [mhas, hb] at h
    · simp [mhas, hb] at h; simp [mfd, hb, ih h]
end

/-- One round: the map and the accounts met. -/
def totStep (s : List (Key × Int) × List Key) (e : Ent) : List (Key × Int) × List Key :=
  (mput s.1 e.1 (IntKind.wrap .i64 (mfd s.1 e.1 0 + e.2.1)), if mhas s.1 e.1 = true then s.2 else s.2 ++ [e.1])
def totMap (l : List Ent) : List (Key × Int) × List Key := l.foldl totStep ([], [])
def totOut (m : List (Key × Int)) (ks : List Key) : List Ent := ks.foldl (fun out a => if mfd m a 0 = 0 then out else out ++ [(a, mfd m a 0, ())]) []
def tots (l : List Ent) : List Ent := totOut (totMap l).1 (sortS (totMap l).2)

theorem totMap_spec (l : List Ent) : (∀ b, mfd (totMap l).1 b 0 = sumW l b) ∧ (totMap l).2.Nodup ∧ (∀ b, b ∈ (totMap l).2 ↔ mhas (totMap l).1 b = true) ∧ (totMap l).2.length ≤ l.length := by
  refine snoc_ind (P := fun l => (∀ b, mfd (totMap l).1 b 0 = sumW l b) ∧ (totMap l).2.Nodup ∧ (∀ b, b ∈ (totMap l).2 ↔ mhas (totMap l).1 b = true) ∧ (totMap l).2.length ≤ l.length) ?_ ?_ l
  · exact ⟨fun b => rfl, by simp [totMap], by simp [totMap, mhas], by simp [totMap]⟩
  · intro l e ⟨h1, h2, h3, h4⟩
    have hs : totMap (l ++ [e]) = totStep (totMap l) e := by simp [totMap, List.foldl_append]
    rw [hs]
    refine ⟨fun b => ?_, ?_, fun b => ?_, ?_⟩
    · simp only [totStep, mfd_mput, sumW_snoc, h1]
      by_cases hb : b = e.1
      · subst hb; simp
      · rw [if_neg hb, if_neg (Ne.symm hb)]
    · simp only [totStep]
      split
      · exact h2
      · next hm =>
        refine List.nodup_append.2 ⟨h2, by simp, fun a ha b hb => ?_⟩
        simp only [List.mem_singleton] at hb
        subst hb
        intro e'
        subst e'
        exact hm ((h3 _).1 ha)
    · simp only [totStep, mhas_mput]
      split
      · next hm =>
        by_cases hb : b = e.1
        · subst hb; simp [h3, hm]
        · simp [hb, h3]
      · by_cases hb : b = e.1
        · subst hb; simp
        · simp [hb, h3]
    · simp only [totStep]
      split
      · simp; omega
      · simp; omega

theorem totOut_eq (m : List (Key × Int)) (ks : List Key) : totOut m ks = (ks.filter fun a => !decide (mfd m a 0 = 0)).map fun a => (a, mfd m a 0, ()) := by
  refine snoc_ind (P := fun ks => totOut m ks = (ks.filter fun a => !decide (mfd m a 0 = 0)).map fun a => (a, mfd m a 0, ())) rfl ?_ ks
  intro l x ih
  unfold totOut at ih ⊢
  rw [List.foldl_append, ih, List.filter_append, List.map_append]
  by_cases hx : mfd m x 0 = 0 <;> simp [hx]

theorem sortS_sorted (ks : List Key) (h : ks.Nodup) : (sortS ks).Pairwise (· < ·) := by
  have h1 : (sortS ks).Pairwise fun x y => decide (x ≤ y) = true := List.pairwise_mergeSort (fun a b c h1 h2 => by
    simp only [decide_eq_true_eq] at h1 h2 ⊢; exact List.le_trans h1 h2) (fun a b => by
    simp only [Bool.or_eq_true, decide_eq_true_eq]; exact List.le_total a b) ks
  have h2 : (sortS ks).Nodup := (List.mergeSort_perm ks _).nodup_iff.2 h
  refine (h1.and h2).imp ?_
  rintro a b ⟨h3, h4⟩
  simp only [decide_eq_true_eq] at h3
  exact Classical.byContradiction fun hn => h4 (List.le_antisymm h3 (List.not_lt.1 hn))

theorem getE_map (m : List (Key × Int)) : ∀ (ks : List Key) (b : Key), getE (ks.map fun a => (a, mfd m a 0, ())) b = if b ∈ ks then mfd m b 0 else 0
  | [], b => by simp [getE]
  | a :: ks, b => by
    simp only [List.map_cons, getE, getE_map m ks b]
    by_cases h : a = b
    · subst h; simp
    · rw [if_neg h]
      simp [Ne.symm h]

/-- THE TWO ROADS MEET. -/
theorem tots_eq (l : List Ent) (h : AllI l) : tots l = adds l := by
  obtain ⟨a1, a2, a3, a4⟩ := adds_spec l h
  obtain ⟨m1, m2, m3, m4⟩ := totMap_spec l
  unfold tots
  rw [totOut_eq]
  have hs := sortS_sorted _ m2
  refine ext_SA ?_ a1 ?_ a2 fun b => ?_
  · unfold SA
    rw [List.pairwise_map]
    exact List.Pairwise.imp (fun h => h) (hs.filter _)
  · intro e he
    simp only [List.mem_map, List.mem_filter] at he
    obtain ⟨a, ⟨_, h0⟩, rfl⟩ := he
    simpa using h0
  · rw [getE_map, a4, ← m1]
    have hmem : b ∈ sortS (totMap l).2 ↔ b ∈ (totMap l).2 := (List.mergeSort_perm _ _).mem_iff
    simp only [List.mem_filter, hmem, m3]
    split
    · rfl
    · next hn =>
      cases hm : mhas (totMap l).1 b with
      | false => exact (mfd_not hm).symm
      | true =>
        simp only [hm, true_and] at hn
        have h0 : mfd (totMap l).1 b 0 = 0 := by simpa using hn
        exact h0.symm

theorem tots_length (l : List Ent) : (tots l).length ≤ l.length := by
  obtain ⟨_, _, _, m4⟩ := totMap_spec l
  unfold tots
  rw [totOut_eq, List.length_map]
  refine Nat.le_trans (List.length_filter_le _ _) ?_
  rw [sortS_length]
  exact m4
end VM
