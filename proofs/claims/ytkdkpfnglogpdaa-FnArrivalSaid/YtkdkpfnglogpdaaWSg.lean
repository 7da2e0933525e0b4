/- SortEvents, DropEvent. -/
import Derived.Test.YtkdkpfnglogpdaaWSf
import Derived.Test.YtkdkpfnglogpdaaVQb
set_option linter.unusedVariables false
set_option linter.unusedSimpArgs false
namespace VM
open Go

theorem SmV.at {l pre post : List TEv} {x : TEv} (h : SmV l) (e : l = pre ++ x :: post) : x.2.2.2.1.length ≤ 1048576 := h x (by rw [e]; simp)

theorem foldl_filter (p : TEv → Bool) (l : List TEv) : l.foldl (fun a x => if p x = true then a ++ [x] else a) [] = l.filter p := by
  have : ∀ (l a : List TEv), l.foldl (fun a x => if p x = true then a ++ [x] else a) a = a ++ l.filter p := by
    intro l
    induction l with
    | nil => intro a; simp
    | cons x l ih =>
      intro a
      rw [List.foldl_cons, ih]
      by_cases h : p x = true
      · simp [h]
      · simp [h]
  simpa using this l []

theorem impl_Drop_eq {k : Nat} (hk : 1048577 < k) {l : List TEv} {id : Int} (hl : l.length ≤ 1000) : VF.impl_DropEvent k l id = some ((l.filter (fun e => !decide (e.1 = id)), ()), ()) := by
  unfold VF.impl_DropEvent
  simp only [join_eq]
  have := iter_fold (s := VF.impl_DropEvent.l1 id VF.impl_DropEvent.j0) (st := fun (a : List TEv) (i : Nat) => (a, l, (l.length : Int), (i : Int))) l (fun a x => if (!decide (x.1 = id)) = true then a ++ [x] else a)
    VF.impl_DropEvent.j0 (fun pre a => a.length ≤ pre.length)
    (fun a pre x post e h => by by_cases hx : (!decide (x.1 = id)) = true <;> simp only [hx, if_true, if_false, List.length_append, List.length_cons, List.length_nil, Bool.false_eq_true] <;> omega)
    (fun ih a pre x post e h => by
      have hl2 : pre.length + (post.length + 1) = l.length := by rw [e]; simp
      unfold VF.impl_DropEvent.l1
      have c1 : decide ((pre.length : Int) < (l.length : Int)) = true := by simp; omega
      simp only [c1, sel_true, etaE]
      rw [inb_at e rfl, rdL_at e rfl, w64 (by omega) (by omega)]
      simp only [grd_true, sel_if]
      rw [fits_of (by decide) (by omega)]
      simp only [grd_true]
      by_cases hx : (!decide (x.1 = id)) = true
      · simp only [hx, if_true]; rfl
      · simp only [hx, if_false]; rfl)
    (fun ih a h => by
      unfold VF.impl_DropEvent.l1
      simp only [Int.lt_irrefl, decide_false, sel_false])
    (k := k) (by omega) (a := []) (by simp)
  rw [show ((0 : Int)) = ((0 : Nat) : Int) by rfl, this, foldl_filter]
  rfl

theorem impl_Sort_eq {k : Nat} (hk : 1048577 < k) {l : List TEv} (hl : l.length ≤ 1048576) (hs : SmV l) : VF.impl_SortEvents k l = some ((sortV k l, ()), ()) := by
  unfold VF.impl_SortEvents
  by_cases h100 : l.length ≤ 100
  case neg =>
    have c1 : decide (100 < (l.length : Int)) = true := by simp; omega
    simp only [c1, sel_true, sortV, h100, if_false]
  have c1 : decide (100 < (l.length : Int)) = false := by simp; omega
  simp only [c1, sel_false, join_eq, sortV, h100, if_true]
  have := iter_fold (s := VF.impl_SortEvents.l3 k (VF.impl_SortEvents.j2 k)) (st := fun (a : List TEv) (i : Nat) => (([] : List TEv), a, l, (l.length : Int), (i : Int))) l (fun a x => if isEv k x = true then a ++ [x] else a)
    (fun a => VF.impl_SortEvents.j2 k ([], a)) (fun pre a => a.length ≤ pre.length)
    (fun a pre x post e h => by by_cases hx : isEv k x = true <;> simp only [hx, if_true, if_false, List.length_append, List.length_cons, List.length_nil, Bool.false_eq_true] <;> omega)
    (fun ih a pre x post e h => by
      have hl2 : pre.length + (post.length + 1) = l.length := by rw [e]; simp
      have hx2 := hs.at e
      unfold VF.impl_SortEvents.l3
      have c1 : decide ((pre.length : Int) < (l.length : Int)) = true := by simp; omega
      simp only [c1, sel_true, etaE]
      rw [inb_at e rfl, rdL_at e rfl, w64 (by omega) (by omega), impl_IsEvent_eq (by omega) (by omega)]
      simp only [grd_true, sel_if, bnd_some']
      rw [fits_of (by decide) (by omega)]
      simp only [grd_true]
      by_cases hx : isEv k x = true
      · simp only [hx, if_true]; rfl
      · simp only [hx, if_false]; rfl)
    (fun ih a h => by
      unfold VF.impl_SortEvents.l3
      simp only [Int.lt_irrefl, decide_false, sel_false])
    (k := k) (by omega) (a := []) (by simp)
  rw [show ((0 : Int)) = ((0 : Nat) : Int) by rfl, this, foldl_filter]
  have hf : (l.filter (isEv k)).length ≤ 100 := Nat.le_trans (List.length_filter_le _ _) h100
  obtain ⟨Z, e1, e2, e3⟩ := stable_ex (k := k) (by omega) (D := l.filter (isEv k)) (by omega)
  unfold VF.impl_SortEvents.j2
  simp only [e1, bnd_some', join_eq]
  rw [← dd_sortE e3 e2]
  have hZ : Z.length ≤ 100 := by rw [e2.length_eq]; exact hf
  have := iter_run (s := VF.impl_SortEvents.l1 VF.impl_SortEvents.j0) (st := fun (a : List TEv × List (Int × Bool)) (i : Nat) => (a.1, a.2, Z, (Z.length : Int), (i : Int))) Z (fun post a => some ((post.foldl dd a.1, ()), ()))
    (fun pre a => a.1.length ≤ pre.length ∧ ∀ id, mfd a.2 id false = a.1.any (fun o => decide (o.1 = id)))
    (fun ih a pre x post e h hI => by
      have hl2 : pre.length + (post.length + 1) = Z.length := by rw [e]; simp
      have hh := h.1
      unfold VF.impl_SortEvents.l1
      have c1 : decide ((pre.length : Int) < (Z.length : Int)) = true := by simp; omega
      simp only [c1, sel_true, etaE]
      rw [inb_at e rfl, rdL_at e rfl, w64 (by omega) (by omega), h.2 x.1, fits_of (by decide) (by omega)]
      simp only [grd_true, sel_if, List.foldl_cons]
      by_cases hx : a.1.any (fun o => decide (o.1 = x.1)) = true
      · simp only [hx, Bool.not_true, Bool.false_eq_true, if_false]
        have := hI a ⟨by simp; omega, h.2⟩
        rw [show dd a.1 x = a.1 by unfold dd; rw [if_pos hx]]
        exact this
      · have hx' : a.1.any (fun o => decide (o.1 = x.1)) = false := Bool.eq_false_iff.2 hx
        simp only [hx', Bool.not_false, if_true]
        have := hI (a.1 ++ [x], mput a.2 x.1 true) ⟨by simp; omega, fun id => by
          rw [mfd_mput, List.any_append, h.2]
          by_cases hi : id = x.1
          · simp [hi]
          · have hi' : ¬ x.1 = id := fun e => hi e.symm
            simp [hi, hi']⟩
        rw [show dd a.1 x = a.1 ++ [x] by unfold dd; rw [if_neg hx]]
        exact this)
    (fun ih a h => by
      unfold VF.impl_SortEvents.l1
      simp only [Int.lt_irrefl, decide_false, sel_false, VF.impl_SortEvents.j0, List.foldl_nil])
    (k := k) (by omega) (a := ([], [])) ⟨by simp, fun id => rfl⟩
  exact this

theorem find_eq {k : Nat} {l : List TEv} {id : Int} (hl : l.length ≤ 1000) (hk : 1000 < k) :
    VF.spec_l37Find k l id = some ((match l.findIdx? (fun o => decide (o.1 = id)) with | some j => (j : Int) | none => -1, ()), ()) := by
  unfold VF.spec_l37Find
  simp only [join_eq]
  have := iter_run (A := Unit) (s := VF.spec_l37Find.l1 l id VF.spec_l37Find.j0) (st := fun _ (i : Nat) => (i : Int)) l
    (fun post _ => some ((match post.findIdx? (fun o => decide (o.1 = id)) with | some j => ((l.length - post.length + j : Nat) : Int) | none => -1, ()), ())) (fun _ _ => True)
    (fun ih a pre x post e _ hI => by
      have hl2 : pre.length + (post.length + 1) = l.length := by rw [e]; simp
      unfold VF.spec_l37Find.l1
      have c1 : decide ((pre.length : Int) < (l.length : Int)) = true := by simp; omega
      simp only [c1, sel_true]
      rw [inb_at e rfl, rdL_at e rfl, w64 (by omega) (by omega)]
      simp only [grd_true, sel_if, decide_eq_true_eq, List.findIdx?_cons]
      by_cases hx : x.1 = id
      · simp only [hx, decide_true, if_true, List.length_cons, Nat.add_zero]
        rw [show l.length - (post.length + 1) = pre.length by omega]
      · simp only [hx, decide_false, if_false, Bool.false_eq_true]
        have := hI () trivial
        rw [show ((pre.length : Int) + 1) = ((pre.length + 1 : Nat) : Int) by omega, this]
        cases post.findIdx? (fun o => decide (o.1 = id)) with
        | none => rfl
        | some j =>
          simp only [Option.map_some, List.length_cons]
          rw [show l.length - post.length + j = l.length - (post.length + 1) + (j + 1) by omega])
    (fun ih a _ => by
      unfold VF.spec_l37Find.l1
      simp only [Int.lt_irrefl, decide_false, sel_false, VF.spec_l37Find.j0, List.findIdx?_nil])
    (k := k) (by omega) (a := ()) trivial
  have h2 : iter (VF.spec_l37Find.l1 l id VF.spec_l37Find.j0) k 0 = _ := this
  rw [h2]
  simp only [Nat.sub_self, Nat.zero_add]

theorem ins_eq {k : Nat} (hk : 1000 < k) {out : List TEv} (hl : out.length ≤ 500) (e : TEv) : VF.spec_l37Put.j2 k ((e.1, e.2.1, e.2.2.1, e.2.2.2.1, e.2.2.2.2.1, e.2.2.2.2.2.1, e.2.2.2.2.2.2.1), out) = some ((insE out e, ()), ()) := by
  unfold VF.spec_l37Put.j2
  simp only [join_eq]
  have := iter_run (A := Unit) (s := VF.spec_l37Put.l1 k VF.spec_l37Put.j0) (st := fun _ (i : Nat) => ((e.1, e.2.1, e.2.2.1, e.2.2.2.1, e.2.2.2.2.1, e.2.2.2.2.2.1, e.2.2.2.2.2.2.1), out, (i : Int))) out
    (fun post _ => VF.spec_l37Put.j0 ((e.1, e.2.1, e.2.2.1, e.2.2.2.1, e.2.2.2.2.1, e.2.2.2.2.2.1, e.2.2.2.2.2.2.1), out, ((out.length - post.length + (post.takeWhile (fun o => decide (ltE o e))).length : Nat) : Int))) (fun _ _ => True)
    (fun ih a pre x post ex _ hI => by
      have hl2 : pre.length + (post.length + 1) = out.length := by rw [ex]; simp
      unfold VF.spec_l37Put.l1
      have c1 : decide ((pre.length : Int) < (out.length : Int)) = true := by simp; omega
      simp only [c1, sel_true, etaE]
      rw [inb_at ex rfl, rdL_at ex rfl, w64 (by omega) (by omega), before_eq (by omega)]
      simp only [grd_true, bnd_some', sel_if, decide_eq_true_eq, List.takeWhile_cons]
      by_cases hx : ltE x e
      · simp only [hx, decide_true, if_true, List.length_cons]
        have := hI () trivial
        rw [show ((pre.length : Int) + 1) = ((pre.length + 1 : Nat) : Int) by omega, this]
        rw [show out.length - (post.length + 1) + ((post.takeWhile (fun o => decide (ltE o e))).length + 1) = out.length - post.length + (post.takeWhile (fun o => decide (ltE o e))).length by omega]
      · simp only [hx, decide_false, if_false, Bool.false_eq_true, List.length_nil, List.length_cons]
        rw [show out.length - (post.length + 1) + 0 = pre.length by omega])
    (fun ih a _ => by
      unfold VF.spec_l37Put.l1
      simp only [Int.lt_irrefl, decide_false, sel_false, List.takeWhile_nil, List.length_nil, Nat.sub_zero, Nat.add_zero])
    (k := k) (by omega) (a := ()) trivial
  have h2 : iter (VF.spec_l37Put.l1 k VF.spec_l37Put.j0) k ((e.1, e.2.1, e.2.2.1, e.2.2.2.1, e.2.2.2.2.1, e.2.2.2.2.2.1, e.2.2.2.2.2.2.1), out, 0) = _ := this
  rw [h2]
  unfold insE
  have hsp : out = out.takeWhile (fun o => decide (ltE o e)) ++ out.dropWhile (fun o => decide (ltE o e)) := List.takeWhile_append_dropWhile.symm
  simp only [Nat.sub_self, Nat.zero_add]
  generalize out.takeWhile (fun o => decide (ltE o e)) = T at *
  generalize out.dropWhile (fun o => decide (ltE o e)) = D at *
  subst hsp
  unfold VF.spec_l37Put.j0
  simp only [List.length_append] at hl
  simp only [subL_left, subL_right, List.nil_append]
  rw [grd_of, grd_of, grd_of, grd_of, grd_of]
  · simp
  all_goals first | exact fits_of (by decide) (by first | omega | (simp; omega)) | (simp; done) | (simp; omega)

theorem spec_Put_eq {k : Nat} (hk : 1000 < k) {l : List TEv} (hl : l.length ≤ 400) (hd : l.Pairwise fun a b => a.1 ≠ b.1) (e : TEv) : VF.spec_l37Put k l e = some ((putE l e, ()), ()) := by
  unfold VF.spec_l37Put
  rw [find_eq (by omega) (by omega)]
  simp only [bnd_some', join_eq, List.nil_append]
  rw [fits_of (by decide) (by omega)]
  simp only [grd_true]
  cases hf : l.findIdx? (fun o => decide (o.1 = e.1)) with
  | none =>
    have hn : ∀ o ∈ l, ¬ o.1 = e.1 := by simpa using List.findIdx?_eq_none_iff.1 hf
    simp only [show decide ((0 : Int) ≤ -1) = false by rfl, sel_false]
    rw [ins_eq hk (by omega)]
    unfold putE
    have h1 : l.any (fun o => decide (o.1 = e.1) && !decide (ltE e o)) = false := by
      rw [List.any_eq_false]
      intro o ho
      simp [hn o ho]
    have h2 : l.filter (fun o => !decide (o.1 = e.1)) = l := by
      rw [List.filter_eq_self]
      intro o ho
      simp [hn o ho]
    rw [h1, h2]
    simp
  | some j =>
    obtain ⟨hj, hp, hq⟩ := List.findIdx?_eq_some_iff_getElem.1 hf
    have hsp : l = l.take j ++ l[j] :: l.drop (j + 1) := by
      rw [← List.drop_eq_getElem_cons hj, List.take_append_drop]
    have hjl : (l.take j).length = j := by simp; omega
    have hpre : ∀ o ∈ l.take j, ¬ o.1 = e.1 := by
      intro o ho
      obtain ⟨i, hi, rfl⟩ := List.getElem_of_mem ho
      rw [List.getElem_take]
      have := hq i (by simp at hi; omega)
      simpa using this
    have hid : l[j].1 = e.1 := by simpa using hp
    generalize l[j] = o at *
    generalize l.take j = A at *
    generalize l.drop (j + 1) = B at *
    subst hjl
    subst hsp
    have hpost : ∀ y ∈ B, ¬ y.1 = e.1 := by
      intro y hy q
      have := (List.pairwise_cons.1 (List.pairwise_append.1 hd).2.1).1 y hy
      exact this (hid.trans q.symm)
    simp only [List.length_append, List.length_cons] at hl
    have c0 : decide ((0 : Int) ≤ (A.length : Int)) = true := by simp
    simp only [c0, sel_true, etaE, inb_mid, rdL_mid, grd_true]
    rw [before_eq (by omega)]
    simp only [bnd_some', sel_if]
    unfold putE
    have h2 : (A ++ o :: B).filter (fun o => !decide (o.1 = e.1)) = A ++ B := by
      have q1 : A.filter (fun o => !decide (o.1 = e.1)) = A := List.filter_eq_self.2 fun o ho => by simp [hpre o ho]
      have q2 : B.filter (fun o => !decide (o.1 = e.1)) = B := List.filter_eq_self.2 fun o ho => by simp [hpost o ho]
      simp [List.filter_append, List.filter_cons, hid, q1, q2]
    by_cases hlt : ltE e o
    · have h1 : (A ++ o :: B).any (fun o => decide (o.1 = e.1) && !decide (ltE e o)) = false := by
        rw [List.any_eq_false]
        intro y hy
        rcases List.mem_append.1 hy with hy | hy
        · simp [hpre y hy]
        · rcases List.mem_cons.1 hy with rfl | hy
          · simp [hlt]
          · simp [hpost y hy]
      simp only [hlt, decide_true, Bool.not_true, Bool.false_eq_true, if_false, h1, h2]
      have w1 : IntKind.wrap .i64 ((A.length : Int) + 1) = ((A ++ [o]).length : Int) := by rw [w64 (by omega) (by omega)]; simp
      have s2 : subL (A ++ o :: B) ((A ++ [o]).length : Int) ((A ++ o :: B).length : Int) = B := by
        rw [show A ++ o :: B = (A ++ [o]) ++ B by simp]; exact subL_right _ _
      simp only [w1, s2, subL_left, grd_true]
      rw [grd_of, grd_of, grd_of, grd_of]
      · exact ins_eq hk (by simp; omega) e
      all_goals first | exact fits_of (by decide) (by first | omega | (simp; omega)) | (simp; done) | (simp; omega)
    · have h1 : (A ++ o :: B).any (fun o => decide (o.1 = e.1) && !decide (ltE e o)) = true := by
        rw [List.any_eq_true]
        exact ⟨o, by simp, by simp [hid, hlt]⟩
      simp only [hlt, decide_false, Bool.not_false, if_true, h1]

theorem Chr.dist {R V : List TEv} (h : Chr R V) : R.Pairwise fun a b => a.1 ≠ b.1 := by
  refine h.1.imp_of_mem ?_
  intro a b ha hb q e
  exact ltE_irrefl a (by have := h.ids ha hb e; rw [← this] at q; exact q)
theorem putE_len (l : List TEv) (e : TEv) : (putE l e).length ≤ l.length + 1 := by
  unfold putE
  split
  · omega
  · unfold insE
    have h1 := List.length_filter_le (fun o : TEv => !decide (o.1 = e.1)) l
    generalize l.filter (fun o => !decide (o.1 = e.1)) = m at *
    have h2 : (m.takeWhile (fun o => decide (ltE o e)) ++ m.dropWhile (fun o => decide (ltE o e))).length = m.length := by rw [List.takeWhile_append_dropWhile]
    simp only [List.length_append, List.length_cons] at h2 ⊢
    omega

theorem spec_Sort_eq {k : Nat} (hk : 1048577 < k) {l : List TEv} (hl : l.length ≤ 1048576) (hs : SmV l) : VF.spec_SortEvents k l = some ((sortV k l, ()), ()) := by
  unfold VF.spec_SortEvents
  simp only [join_eq]
  by_cases h100 : l.length ≤ 100
  case neg =>
    obtain ⟨k, rfl⟩ : ∃ m, k = m + 1 := ⟨k - 1, by omega⟩
    rw [iter_succ]
    generalize iter _ k = I
    unfold VF.spec_SortEvents.l1
    have c0 : decide ((0 : Int) < (l.length : Int)) = true := by simp; omega
    have c1 : decide ((l.length : Int) ≤ 100) = false := by simp; omega
    simp only [c0, c1, sel_true, sel_false, sortV, h100, if_false, VF.spec_SortEvents.j0]
  have := iter_fold (s := VF.spec_SortEvents.l1 k l VF.spec_SortEvents.j0) (st := fun (a : List TEv) (i : Nat) => (a, (i : Int))) l (fun a x => if isEv k x = true then putE a x else a)
    VF.spec_SortEvents.j0 (fun pre a => Chr a (pre.filter (isEv k)) ∧ a.length ≤ pre.length)
    (fun a pre x post e hh => by
      obtain ⟨h, hle⟩ := hh
      have hpl := putE_len a x
      by_cases hx : isEv k x = true
      · simp only [hx, if_true, List.filter_append, List.filter_cons, List.filter_nil]
        exact ⟨put_chr h x, by simp; omega⟩
      · simp only [hx, if_false, List.filter_append, List.filter_cons, List.filter_nil, List.append_nil, Bool.false_eq_true]
        exact ⟨h, by simp; omega⟩)
    (fun ih a pre x post e hh => by
      obtain ⟨h, hle⟩ := hh
      have hl2 : pre.length + (post.length + 1) = l.length := by rw [e]; simp
      have hx2 := hs.at e
      have hal : a.length ≤ 100 := by omega
      unfold VF.spec_SortEvents.l1
      have c0 : decide ((pre.length : Int) < (l.length : Int)) = true := by simp; omega
      have c1 : decide ((l.length : Int) ≤ 100) = true := by simp; omega
      simp only [c0, c1, sel_true, etaE]
      rw [inb_at e rfl, rdL_at e rfl, w64 (by omega) (by omega), spec_IsEvent_eq (by omega) (by omega), spec_Put_eq (by omega) (by omega) h.dist]
      simp only [grd_true, sel_if, bnd_some']
      by_cases hx : isEv k x = true
      · simp only [hx, if_true]; rfl
      · simp only [hx, if_false]; rfl)
    (fun ih a h => by
      unfold VF.spec_SortEvents.l1
      simp only [Int.lt_irrefl, decide_false, sel_false])
    (k := k) (by omega) (a := []) ⟨⟨by simp, by simp⟩, by simp⟩
  have h2 : iter (VF.spec_SortEvents.l1 k l VF.spec_SortEvents.j0) k ([], 0) = _ := this
  rw [h2]
  simp only [sortV, h100, if_true, VF.spec_SortEvents.j0, sortE]
  congr 3
  have : ∀ (l a : List TEv), l.foldl (fun a x => if isEv k x = true then putE a x else a) a = (l.filter (isEv k)).foldl putE a := by
    intro l
    induction l with
    | nil => intro a; rfl
    | cons x l ih =>
      intro a
      rw [List.foldl_cons, ih]
      by_cases h : isEv k x = true
      · simp [h]
      · simp [h]
  exact this l []
end VM
