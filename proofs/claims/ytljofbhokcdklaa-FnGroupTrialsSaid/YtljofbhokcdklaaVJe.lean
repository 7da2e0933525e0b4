/- The balances of a group are 0 together and do not depend on the order of its firms. -/
import Derived.Test.YtljofbhokcdklaaVJd
set_option linter.unusedVariables false
set_option linter.unusedSimpArgs false
namespace VM
open Go

/-- All amounts together. -/
def tot (l : List Ent) : Int := (l.map (·.2.1)).sum
theorem tot_cons (e : Ent) (l : List Ent) : tot (e :: l) = e.2.1 + tot l := rfl
theorem tot_append (l m : List Ent) : tot (l ++ m) = tot l + tot m := by simp [tot, List.sum_append]
theorem sumF_tot (l : List Ent) : sumF l = IntKind.wrap .i64 (tot l) := by
  refine snoc_ind (P := fun l => sumF l = IntKind.wrap .i64 (tot l)) (by show (0 : Int) = IntKind.wrap .i64 0; decide) (fun l e ih => ?_) l
  have : sumF (l ++ [e]) = IntKind.wrap .i64 (sumF l + e.2.1) := by simp [sumF, List.foldl_append]
  rw [this, ih, tot_append, wrap_wrap_add]
  simp [tot]
theorem tot_addE {a : Key} {n : Int} : ∀ {l : List Ent}, IntKind.wrap .i64 (tot (addE l a n)) = IntKind.wrap .i64 (n + tot l)
  | [] => by
    simp only [addE]
    split
    · next h => subst h; rfl
    · rfl
  | e :: l => by
    simp only [addE]
    have ih := tot_addE (a := a) (n := n) (l := l)
    split
    · rw [tot_cons, tot_cons, ← wrap_add_wrap, ih, wrap_add_wrap]; congr 1; omega
    · split
      · split
        · next h =>
          rw [tot_cons, ← Int.add_assoc, ← wrap_wrap_add, h]
          congr 1; omega
        · rw [tot_cons, tot_cons, ← Int.add_assoc]
          simp only [wrap_wrap_add]
      · split
        · next h => subst h; congr 1; omega
        · rfl
theorem tot_adds (l : List Ent) : IntKind.wrap .i64 (tot (adds l)) = IntKind.wrap .i64 (tot l) := by
  refine snoc_ind (P := fun l => IntKind.wrap .i64 (tot (adds l)) = IntKind.wrap .i64 (tot l)) rfl (fun l e ih => ?_) l
  rw [adds_snoc, tot_addE, ← wrap_add_wrap, ih, wrap_add_wrap, tot_append, Int.add_comm]
  congr 1
  simp [tot]
theorem tot_flat {k : Nat} : ∀ {f : List (List Ent)}, f.all (isT k) = true → IntKind.wrap .i64 (tot f.flatten) = 0
  | [], _ => by decide
  | x :: f, h => by
    simp only [List.all_cons, Bool.and_eq_true] at h
    have hx := h.1
    simp only [isT, Bool.and_eq_true, decide_eq_true_eq, sumF_tot] at hx
    rw [List.flatten_cons, tot_append, ← wrap_add_wrap, tot_flat h.2, Int.add_zero]
    exact hx.2.1
theorem tot_elim : ∀ (l : List D4), IntKind.wrap .i64 (tot (l.flatMap entsX)) = 0
  | [] => by decide
  | d :: l => by
    rw [List.flatMap_cons, tot_append, ← wrap_add_wrap, tot_elim l, Int.add_zero]
    simp only [tot, entsX, List.map_cons, List.map_nil, List.sum_cons, List.sum_nil, IntKind.wrap_i64]
    omega

theorem group_zero {k : Nat} {f : List (List Ent)} {l : List D4} : sumF (groupT k f l).1 = 0 := by
  rw [sumF_tot]
  unfold groupT
  split
  · next h =>
    have hj := h.1
    unfold addT
    split
    · rw [tot_adds, tot_append, ← wrap_add_wrap]
      have h2 : IntKind.wrap .i64 (tot (elimD l (f.length : Int))) = 0 := by
        unfold elimD
        rw [if_pos h.2, tot_adds, tot_elim]
      rw [h2, Int.add_zero]
      unfold joinT at hj ⊢
      split at hj
      · next h3 => rw [if_pos h3, tot_adds, tot_flat h3.2]
      · simp at hj
    · decide
  · decide

/-! ### turned round -/
def turnD (n : Nat) (d : D4) : D4 := (IntKind.wrap .i64 (IntKind.wrap .i64 ((n : Int) - 1) - d.1), IntKind.wrap .i64 (IntKind.wrap .i64 ((n : Int) - 1) - d.2.1), d.2.2.1, d.2.2.2.1, ())

theorem turn_ok {n : Nat} {l : List D4} (h : areDl l (n : Int) = true) : areDl (l.map (turnD n)) (n : Int) = true := by
  simp only [areDl, Bool.and_eq_true, List.all_eq_true, decide_eq_true_eq, List.length_map] at h ⊢
  refine ⟨h.1, h.2.1, fun d hd => ?_⟩
  obtain ⟨x, hx, rfl⟩ := List.mem_map.1 hd
  have hn := h.1
  have hx := h.2.2 x hx
  simp only [okDl, inB, Bool.and_eq_true, decide_eq_true_eq, Bool.not_eq_true', decide_eq_false_iff_not] at hx hn ⊢
  simp only [turnD]
  rw [w64 (x := (n : Int) - 1) (by omega) (by omega), w64 (x := (n : Int) - 1 - x.1) (by omega) (by omega), w64 (x := (n : Int) - 1 - x.2.1) (by omega) (by omega)]
  omega

theorem turn_elim {n : Nat} {l : List D4} (h : areDl l (n : Int) = true) : elimD (l.map (turnD n)) (n : Int) = elimD l (n : Int) := by
  unfold elimD
  rw [if_pos h, if_pos (turn_ok h), List.flatMap_map]
  rfl

theorem sumZ_rev (b : Key) : ∀ f : List (List Ent), sumZ f.reverse.flatten b = sumZ f.flatten b
  | [] => rfl
  | x :: f => by
    rw [List.reverse_cons, List.flatten_append, sumZ_append, sumZ_rev b f, List.flatten_cons, List.flatten_cons, sumZ_append, sumZ_append, List.flatten_nil]
    simp only [sumZ]
    omega

theorem join_rev {k : Nat} {f : List (List Ent)} : joinT k f.reverse = joinT k f := by
  unfold joinT
  rw [List.length_reverse, List.all_reverse]
  split
  · next h =>
    have h1 := (flat12 h.2).2
    have h2 := (flat12 (l := f.reverse) (k := k) (by rw [List.all_reverse]; exact h.2)).2
    rw [adds_ext h2 h1 fun b => by rw [sumZ_rev]]
  · rfl

theorem group_turn {k : Nat} {f : List (List Ent)} {l : List D4} (h : (groupT k f l).2 = true) : groupT k f.reverse (l.map (turnD f.length)) = groupT k f l := by
  have hd : areDl l (f.length : Int) = true := by
    unfold groupT at h
    split at h
    · next h2 => exact h2.2
    · simp at h
  unfold groupT
  rw [join_rev, List.length_reverse, hd, turn_ok hd, turn_elim hd]

/-- Nothing dealt: the trials joined. -/
theorem group_none {k : Nat} {f : List (List Ent)} (h : (groupT k f []).2 = true) : (groupT k f []).1 = (joinT k f).1 := by
  unfold groupT at h ⊢
  split at h
  case isFalse => simp at h
  rename_i h2
  rw [if_pos h2]
  have he : elimD [] (f.length : Int) = [] := by unfold elimD; split <;> rfl
  rw [he] at h ⊢
  unfold addT at h ⊢
  split at h
  case isFalse => simp at h
  rename_i h3
  rw [if_pos h3, List.append_nil]
  have hj := h2.1
  unfold joinT at hj ⊢
  split at hj
  case isFalse => simp at hj
  rename_i h4
  rw [if_pos h4]
  have hI := (flat12 h4.2).2
  have := adds_adds (l := f.flatten) (m := []) hI (by simp [AllI])
  simpa [adds] using this

theorem groups_true (code : List Int) : VF.laws_FnGroupTrials 1048600 code = some ((true, ()), ()) := by
  unfold VF.laws_FnGroupTrials VF.laws_big
  simp only [bnd_some']
  by_cases hbig : (1048576 : Int) < (code.length : Int)
  · simp [hbig]
  · simp only [hbig, decide_false, sel_false]
    obtain ⟨f, l, e, ⟨hf3, hfs⟩, hl5⟩ := drawGroup_ex (k := 1048600) (code := code) (by omega) (by omega)
    rw [e]
    simp only [bnd_some', join_eq]
    have f1 : ∀ m, m ≤ 1048576 + 2 → fits m 24 = true := fun m hm => fits_of (by omega) (by omega)
    have f2 : ∀ m, m ≤ 1048576 + 2 → fits m 32 = true := fun m hm => fits_of (by omega) (by omega)
    have hg1 := impl_Group_eq (k := 1048600) (by omega) (f := f) (l := l) (by omega) hfs (by omega)
    have hg2 := spec_Group_eq (k := 1048600) (by omega) (f := f) (l := l) (by omega) hfs (by omega)
    unfold VF.laws_FnGroupTrials.j6
    simp only [hg1, hg2, bnd_some', BEq.rfl, Bool.not_true, sel_false]
    cases hok : (groupT 1048600 f l).2 with
    | false =>
      have : (groupT 1048600 f l).1 = [] := by
        unfold groupT at hok ⊢
        split
        · next h =>
          rw [if_pos h] at hok
          unfold addT at hok ⊢
          split
          · next h2 => rw [if_pos h2] at hok; cases hok
          · rfl
        · rfl
      simp [this]
    | true =>
      simp only [Bool.not_true, sel_false, join_eq]
      generalize ht : (groupT 1048600 f l).1 = t
      have htl : t.length ≤ 200 := by rw [← ht]; exact groupT_len
      -- the end
      have hend : VF.laws_FnGroupTrials.j2 1048600 (f, l, t, f.reverse, l.map (turnD f.length)) = some ((true, ()), ()) := by
        unfold VF.laws_FnGroupTrials.j2
        have hg3 := impl_Group_eq (k := 1048600) (by omega) (f := f.reverse) (l := l.map (turnD f.length)) (by simp; omega) (fun x hx => hfs x (by simpa using hx)) (by simp; omega)
        simp only [hg3, group_turn hok, ht, hok, bnd_some', impl_Join_eq (k := 1048600) (by omega) (l := f) (by omega) hfs, join_eq]
        have h1 := iter_fold (s := VF.laws_FnGroupTrials.l1 (VF.laws_FnGroupTrials.j0 1048600)) (fun (a : Int) i => (l, t, t, true, (joinT 1048600 f).1, a, (i : Int))) t (fun s e => IntKind.wrap .i64 (s + e.2.1))
          (fun a => VF.laws_FnGroupTrials.j0 1048600 (l, t, t, true, (joinT 1048600 f).1, a)) (fun _ _ => True)
          (fun _ _ _ _ _ _ => trivial)
          (fun ih a pre x post hx _ => by
            have hpl : pre.length < 1099511627776 := by rw [hx] at htl; simp at htl; omega
            have g1 : decide ((pre.length : Int) < (t.length : Int)) = true := by rw [hx]; exact lt_mid _ _ _
            have g2 : inb t (pre.length : Int) = true := by rw [hx]; exact inb_mid _ _ _
            have g3 : rdL t (pre.length : Int) ([], 0, ()) = x := by rw [hx]; exact rdL_mid _ _ _ _
            simp only [VF.laws_FnGroupTrials.l1, g1, g2, g3, sel_true, grd_true, wnext hpl])
          (fun ih a _ => by simp [VF.laws_FnGroupTrials.l1])
          (k := 1048600) (by omega) (a := 0) trivial
        rw [show ((0 : Nat) : Int) = 0 from rfl] at h1
        rw [h1]
        have h0 : t.foldl (fun s e => IntKind.wrap .i64 (s + e.2.1)) 0 = 0 := by
          have := group_zero (k := 1048600) (f := f) (l := l)
          rwa [ht] at this
        rw [h0]
        unfold VF.laws_FnGroupTrials.j0
        simp only [sel_true, decide_true, same_eq (k := 1048600) (a := t) (b := t) (by omega) (by omega), bnd_some']
        cases l with
        | cons d l => simp
        | nil =>
          have := group_none hok
          rw [ht] at this
          rw [← this, same_eq (k := 1048600) (a := t) (b := t) (by omega) (by omega)]
          simp
      -- the dealings, turned
      have hturn : VF.laws_FnGroupTrials.j4 1048600 (f, l, t, f.reverse, []) = some ((true, ()), ()) := by
        unfold VF.laws_FnGroupTrials.j4
        simp only [join_eq]
        have h1 := iter_fold (s := VF.laws_FnGroupTrials.l3 (VF.laws_FnGroupTrials.j2 1048600)) (fun (a : List D4) i => (f, l, t, f.reverse, a, (i : Int))) l (fun s d => s ++ [turnD f.length d])
          (fun a => VF.laws_FnGroupTrials.j2 1048600 (f, l, t, f.reverse, a)) (fun pre a => a.length = pre.length)
          (fun a pre x post _ h => by simp [h])
          (fun ih a pre x post hx hp => by
            have hpl : pre.length < 100 := by rw [hx] at hl5; simp at hl5; omega
            have g1 : decide ((pre.length : Int) < (l.length : Int)) = true := by rw [hx]; exact lt_mid _ _ _
            have g2 : inb l (pre.length : Int) = true := by rw [hx]; exact inb_mid _ _ _
            have g3 : rdL l (pre.length : Int) (0, 0, 0, 0, ()) = x := by rw [hx]; exact rdL_mid _ _ _ _
            simp only [VF.laws_FnGroupTrials.l3, g1, g2, g3, sel_true, grd_true, wnext (show pre.length < 1099511627776 by omega)]
            rw [f2 _ (by simp only [List.length_cons, List.length_nil]; omega), grd_true]
            rfl)
          (fun ih a _ => by simp [VF.laws_FnGroupTrials.l3])
          (k := 1048600) (by omega) (a := []) rfl
        rw [show ((0 : Nat) : Int) = 0 from rfl] at h1
        rw [h1]
        have hm : l.foldl (fun s d => s ++ [turnD f.length d]) [] = l.map (turnD f.length) := by
          have : ∀ (l : List D4) (r : List D4), l.foldl (fun s d => s ++ [turnD f.length d]) r = r ++ l.map (turnD f.length) := by
            intro l
            induction l with
            | nil => intro r; simp
            | cons d l ih => intro r; rw [List.foldl_cons, ih]; simp
          simpa using this l []
        rw [hm]
        exact hend
      -- the firms, turned round
      have key : ∀ (pre post : List (List Ent)) (j : Nat), f = pre ++ post → pre.length < j →
          iter (VF.laws_FnGroupTrials.l5 (VF.laws_FnGroupTrials.j4 1048600)) j (f, l, t, post.reverse, [], (pre.length : Int) - 1) = some ((true, ()), ()) := by
        intro pre
        refine snoc_ind (P := fun pre => ∀ (post : List (List Ent)) (j : Nat), f = pre ++ post → pre.length < j →
          iter (VF.laws_FnGroupTrials.l5 (VF.laws_FnGroupTrials.j4 1048600)) j (f, l, t, post.reverse, [], (pre.length : Int) - 1) = some ((true, ()), ())) ?_ ?_ pre
        · intro post j hp hj
          obtain ⟨j', rfl⟩ : ∃ j', j = j' + 1 := ⟨j - 1, by omega⟩
          rw [iter_succ]
          simp only [List.nil_append] at hp
          subst hp
          simp [VF.laws_FnGroupTrials.l5, hturn]
        · intro pre x ih post j hp hj
          obtain ⟨j', rfl⟩ : ∃ j', j = j' + 1 := ⟨j - 1, by simp at hj; omega⟩
          rw [iter_succ]
          have hp' : f = pre ++ x :: post := by simpa using hp
          have g0 : (((pre ++ [x]).length : Int) - 1) = (pre.length : Int) := by simp
          have hpl : pre.length + post.length < 3 := by rw [hp'] at hf3; simp at hf3; omega
          have g1 : decide (0 ≤ (pre.length : Int)) = true := by simp
          have g2 : inb f (pre.length : Int) = true := by rw [hp']; exact inb_mid _ _ _
          have g3 : rdL f (pre.length : Int) [] = x := by rw [hp']; exact rdL_mid _ _ _ _
          simp only [VF.laws_FnGroupTrials.l5, g0, g1, g2, g3, sel_true, grd_true]
          rw [f1 _ (by simp only [List.length_cons, List.length_nil, List.length_reverse]; omega), grd_true, w64 (x := (pre.length : Int) - 1) (by omega) (by omega)]
          have := ih (x :: post) j' hp' (by simp at hj; omega)
          simpa using this
      have := key f [] 1048600 (by simp) (by omega)
      rw [w64 (x := (f.length : Int) - 1) (by omega) (by omega)]
      exact this
end VM
