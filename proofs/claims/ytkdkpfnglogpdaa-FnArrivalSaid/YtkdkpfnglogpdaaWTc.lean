/- What the program's books do at an event. -/
import Derived.Test.YtkdkpfnglogpdaaWTb
import Derived.Test.YtkdkpfnglogpdaaVHd
set_option linter.unusedVariables false
set_option linter.unusedSimpArgs false
namespace VM
open Go

abbrev S0 : TShelf := ([], [], [], ())
def recAt (sh : List TShelf) (i : Int) (e : TEv) : Option (List TShelf) :=
  (recL (rdL sh i S0).2.2.1 e.2.2.2.2.1 e.2.2.2.2.2.1).map fun ls => wrL sh i ((rdL sh i S0).1, (rdL sh i S0).2.1 ++ [e.1], ls, ())
def insT (sh : List TShelf) (item : List UInt8) : List TShelf := sh.takeWhile (fun s => ltS s.1 item)
def insS (sh : List TShelf) (item : List UInt8) : List TShelf := insT sh item ++ (item, [], [], ()) :: sh.dropWhile (fun s => ltS s.1 item)
def recB (sh : List TShelf) (e : TEv) : Option (List TShelf) :=
  if idxS sh e.2.2.2.1 < 0 then (if 12 ≤ sh.length then none else recAt (insS sh e.2.2.2.1) ((insT sh e.2.2.2.1).length : Int) e) else recAt sh (idxS sh e.2.2.2.1) e

theorem recAt_eq {k : Nat} (hk : 1048577 < k) {pre post : List TShelf} {s : TShelf} (w : Int) (docs : List TDoc) (e : TEv) (h1 : s.2.1.length ≤ 1000) (h2 : s.2.2.1.length ≤ 1000) :
    VF.impl_receive.j0 k ((pre ++ s :: post, w, docs), (e.1, e.2.1, e.2.2.1, e.2.2.2.1, e.2.2.2.2.1, e.2.2.2.2.2.1, e.2.2.2.2.2.2.1), (pre.length : Int)) =
      some (((recAt (pre ++ s :: post) (pre.length : Int) e).isSome, ()), ((recAt (pre ++ s :: post) (pre.length : Int) e).getD (pre ++ s :: post), w, docs, ()), ()) := by
  unfold VF.impl_receive.j0 recAt
  simp only [inb_mid, rdL_mid, wrL_mid, grd_true]
  rw [impl_recL_eq hk h2]
  simp only [bnd_some', sel_if]
  cases recL s.2.2.1 e.2.2.2.2.1 e.2.2.2.2.2.1 with
  | none => rfl
  | some ls =>
    simp only [Option.isSome_some, Option.getD_some, Option.map_some, Bool.not_true, Bool.false_eq_true, if_false, decide_true, grd_true]
    rw [fits_of (by decide) (by first | omega | (simp only; omega))]
    rfl

theorem impl_receive_ex {k : Nat} (hk : 1048577 < k) {b : TBooks} (hs : SmS b.1) (e : TEv) :
    ∃ b', VF.impl_receive k b e = some (((recB b.1 e).isSome, ()), b', ()) ∧ ∀ sh, recB b.1 e = some sh → b' = (sh, b.2.1, b.2.2.1, ()) := by
  obtain ⟨hl, hss⟩ := hs
  unfold VF.impl_receive
  rw [show VF.impl_shelfOf k (b.1, b.2.1, b.2.2.1, ()) e.2.2.2.1 = _ from impl_shelf_eq hk hl _]
  simp only [bnd_some', join_eq, sel_if, recB]
  rcases idxS_cases b.1 e.2.2.2.1 with ⟨h1, h2⟩ | ⟨pre, s, post, h1, h2, h3, h4⟩
  · rw [h1]
    simp only [show (-1 : Int) < 0 by decide, decide_true, if_true]
    by_cases h12 : 12 ≤ b.1.length
    · have c1 : decide ((12 : Int) ≤ (b.1.length : Int)) = true := by simp; omega
      simp only [c1, h12, if_true]
      exact ⟨_, rfl, by simp⟩
    · have c1 : decide ((12 : Int) ≤ (b.1.length : Int)) = false := by simp; omega
      simp only [c1, h12, if_false, Bool.false_eq_true]
      generalize hJ : VF.impl_receive.j1 (VF.impl_receive.j0 k) = J
      have := iter_run (A := Unit) (s := VF.impl_receive.l2 J) (st := fun _ (i : Nat) => ((b.1, b.2.1, b.2.2.1), (e.1, e.2.1, e.2.2.1, e.2.2.2.1, e.2.2.2.2.1, e.2.2.2.2.2.1, e.2.2.2.2.2.2.1), (i : Int))) b.1
        (fun post _ => J ((b.1, b.2.1, b.2.2.1), (e.1, e.2.1, e.2.2.1, e.2.2.2.1, e.2.2.2.2.1, e.2.2.2.2.2.1, e.2.2.2.2.2.2.1), ((b.1.length - post.length + (insT post e.2.2.2.1).length : Nat) : Int))) (fun _ _ => True)
        (fun ih a pre x post ex _ hI => by
          have hl2 : pre.length + (post.length + 1) = b.1.length := by rw [ex]; simp
          unfold VF.impl_receive.l2
          have c1 : decide ((pre.length : Int) < (b.1.length : Int)) = true := by simp; omega
          simp only [c1, sel_true]
          rw [inb_at ex rfl, rdL_at ex rfl, w64 (by omega) (by omega)]
          simp only [grd_true, sel_if, insT, List.takeWhile_cons]
          by_cases hx : ltS x.1 e.2.2.2.1 = true
          · simp only [hx, if_true, List.length_cons]
            have := hI () trivial
            rw [show ((pre.length : Int) + 1) = ((pre.length + 1 : Nat) : Int) by omega, this]
            unfold insT
            rw [show b.1.length - (post.length + 1) + ((post.takeWhile (fun s => ltS s.1 e.2.2.2.1)).length + 1) = b.1.length - post.length + (post.takeWhile (fun s => ltS s.1 e.2.2.2.1)).length by omega]
          · simp only [hx, if_false, Bool.false_eq_true, List.length_nil, List.length_cons]
            rw [show b.1.length - (post.length + 1) + 0 = pre.length by omega])
        (fun ih a _ => by
          unfold VF.impl_receive.l2
          simp [insT])
        (k := k) (by omega) (a := ()) trivial
      have h5 : iter (VF.impl_receive.l2 J) k ((b.1, b.2.1, b.2.2.1), (e.1, e.2.1, e.2.2.1, e.2.2.2.1, e.2.2.2.2.1, e.2.2.2.2.2.1, e.2.2.2.2.2.2.1), 0) = _ := this
      rw [h5]
      subst hJ
      simp only [Nat.sub_self, Nat.zero_add]
      have hsp : b.1 = insT b.1 e.2.2.2.1 ++ b.1.dropWhile (fun s => ltS s.1 e.2.2.2.1) := List.takeWhile_append_dropWhile.symm
      unfold insS
      generalize insT b.1 e.2.2.2.1 = T at *
      generalize b.1.dropWhile (fun s => ltS s.1 e.2.2.2.1) = D at *
      have hTD : T.length + D.length ≤ 12 := by have := congrArg List.length hsp; simp at this; omega
      rw [hsp]
      unfold VF.impl_receive.j1
      simp only [subL_left, subL_right, List.append_nil, List.singleton_append]
      rw [grd_of, grd_of, grd_of, grd_of]
      · rw [recAt_eq hk _ _ _ (by simp) (by simp)]
        refine ⟨_, rfl, ?_⟩
        intro sh hsh
        rw [hsh]; rfl
      all_goals first | exact fits_of (by decide) (by first | omega | (simp; omega)) | (simp; done) | (simp; omega) | skip
      simp only [decide_true, Bool.true_and, Int.le_refl]
      exact fits_of (by decide) (by simp; omega)
  · rw [h3]
    have c1 : decide ((pre.length : Int) < 0) = false := by simp
    have c2 : ¬ (pre.length : Int) < 0 := by omega
    simp only [c1, c2, if_false, Bool.false_eq_true]
    have hsx := hss s (by rw [h1]; simp)
    rw [h1, recAt_eq hk _ _ _ hsx.2.1 hsx.2.2]
    refine ⟨_, rfl, ?_⟩
    intro sh hsh
    rw [hsh]; rfl

/-! ### documents -/
def filtE (es : List TEnt) : List TEnt := es.filter (fun e => !decide (e.2.1 = 0))
def newD (docs : List TDoc) (day : Int) (es : List TEnt) : List TDoc := docs ++ [((docs.length : Int) + 1, day, filtE es, ())]
def postB (k : Nat) (docs : List TDoc) (day : Int) (es : List TEnt) : Option (List TDoc) :=
  if (filtE es).length = 0 then some docs else if areDoc k (newD docs day es) = true then some (newD docs day es) else none

theorem newD_Sm {docs : List TDoc} (hd : SmD docs) (hdl : docs.length ≤ 1000) {es : List TEnt} (he : SmE es) (day : Int) : SmD (newD docs day es) := by
  refine ⟨by simp [newD]; omega, ?_⟩
  intro d hd'
  rcases List.mem_append.1 hd' with h | h
  · exact hd.2 d h
  · simp only [List.mem_singleton] at h
    subst h
    exact ⟨Nat.le_trans (List.length_filter_le _ _) he.1, fun x hx => he.2 x (List.mem_filter.1 hx).1⟩

theorem impl_post_eq {k : Nat} (hk : 1048577 < k) {b : TBooks} (hd : SmD b.2.2.1) (hdl : b.2.2.1.length ≤ 1000) (day : Int) {es : List TEnt} (he : SmE es) (hel : es.length ≤ 12) :
    VF.impl_post k b day es = some (((postB k b.2.2.1 day es).isSome, ()), (b.1, b.2.1, (postB k b.2.2.1 day es).getD b.2.2.1, ()), ()) := by
  unfold VF.impl_post
  simp only [join_eq]
  have := iter_run (s := VF.impl_post.l1 (VF.impl_post.j0 k day)) (st := fun (a : List TEnt) (i : Nat) => ((b.1, b.2.1, b.2.2.1), a, es, (es.length : Int), (i : Int))) es (fun post a => VF.impl_post.j0 k day ((b.1, b.2.1, b.2.2.1), a ++ filtE post)) (fun pre a => a.length ≤ pre.length)
    (fun ih a pre x post e h hI => by
      have hl2 : pre.length + (post.length + 1) = es.length := by rw [e]; simp
      unfold VF.impl_post.l1
      have c1 : decide ((pre.length : Int) < (es.length : Int)) = true := by simp; omega
      simp only [c1, sel_true]
      rw [inb_at e rfl, rdL_at e rfl, w64 (by omega) (by omega), fits_of (by decide) (by omega)]
      simp only [grd_true, sel_if]
      by_cases hx : x.2.1 = 0
      · have := hI a (by simp; omega)
        simp only [hx, decide_true, Bool.not_true, Bool.false_eq_true, if_false]
        rw [show filtE (x :: post) = filtE post by simp [filtE, hx]]
        exact this
      · have := hI (a ++ [x]) (by simp; omega)
        simp only [hx, decide_false, Bool.not_false, if_true]
        rw [show filtE (x :: post) = x :: filtE post by simp [filtE, hx]]
        rw [List.append_assoc] at this
        exact this)
    (fun ih a h => by simp [VF.impl_post.l1, filtE])
    (k := k) (by omega) (a := []) (by simp)
  have h2 : iter (VF.impl_post.l1 (VF.impl_post.j0 k day)) k ((b.1, b.2.1, b.2.2.1), [], es, (es.length : Int), 0) = _ := this
  rw [h2]
  simp only [List.nil_append]
  unfold VF.impl_post.j0 postB
  by_cases h0 : (filtE es).length = 0
  · simp only [h0]
    simp
  · have c1 : decide (((filtE es).length : Int) = 0) = false := by simp; simpa using h0
    simp only [c1, h0, sel_false, if_false]
    unfold VF.impl_PostEntries
    rw [copyD_eq hk hd]
    have hf : (filtE es).length ≤ 12 := Nat.le_trans (List.length_filter_le _ _) hel
    simp only [bnd_some', List.nil_append]
    rw [fits_of (by decide) (by omega), fits_of (by decide) (by omega), w64 (by omega) (by omega)]
    rw [show b.2.2.1 ++ [((b.2.2.1.length : Int) + 1, day, filtE es, ())] = newD b.2.2.1 day es from rfl, impl_AreDocuments_eq hk (newD_Sm hd hdl he day)]
    simp only [bnd_some', grd_true, sel_if]
    by_cases h4 : areDoc k (newD b.2.2.1 day es) = true
    · simp [h4]
    · simp [h4]

/-! ### issues and late costs -/
def issB (sh : List TShelf) (e : TEv) : Option (List TShelf × Int) :=
  if idxS sh e.2.2.2.1 < 0 then none else (issL (rdL sh (idxS sh e.2.2.2.1) S0).2.2.1 e.2.2.2.2.1).map fun p => (wrL sh (idxS sh e.2.2.2.1) ((rdL sh (idxS sh e.2.2.2.1) S0).1, (rdL sh (idxS sh e.2.2.2.1) S0).2.1, p.1, ()), p.2)

theorem impl_issue_eq {k : Nat} (hk : 1048577 < k) {b : TBooks} (hs : SmS b.1) (e : TEv) :
    VF.impl_issue k b e = some ((((issB b.1 e).getD (b.1, 0)).2, (issB b.1 e).isSome, ()), (((issB b.1 e).getD (b.1, 0)).1, b.2.1, b.2.2.1, ()), ()) := by
  obtain ⟨hl, hss⟩ := hs
  unfold VF.impl_issue
  rw [show VF.impl_shelfOf k (b.1, b.2.1, b.2.2.1, ()) e.2.2.2.1 = _ from impl_shelf_eq hk hl _]
  simp only [bnd_some', sel_if, issB]
  rcases idxS_cases b.1 e.2.2.2.1 with ⟨h1, h2⟩ | ⟨pre, s, post, h1, h2, h3, h4⟩
  · rw [h1]; rfl
  · rw [h3]
    have c1 : decide ((pre.length : Int) < 0) = false := by simp
    have c2 : ¬ (pre.length : Int) < 0 := by omega
    simp only [c1, c2, if_false, Bool.false_eq_true]
    have hsx := hss s (by rw [h1]; simp)
    rw [inb_at h1 rfl, rdL_at h1 rfl, impl_issL_eq hk hsx.2.2]
    simp only [grd_true, bnd_some', sel_if]
    cases issL s.2.2.1 e.2.2.2.2.1 with
    | none => rfl
    | some p => rfl

def lastI (ids : List Int) (r : Int) : Int × Int := ids.foldl (fun (a : Int × Int) x => (a.1 + 1, if x = r then a.1 else a.2)) (0, -1)
def lateB (sh : List TShelf) (e : TEv) : Option (List TShelf × Int) :=
  if idxS sh e.2.2.2.1 < 0 then none
  else if (lastI (rdL sh (idxS sh e.2.2.2.1) S0).2.1 e.2.2.2.2.2.2.1).2 < 0 then none
  else (lateL (rdL sh (idxS sh e.2.2.2.1) S0).2.2.1 (lastI (rdL sh (idxS sh e.2.2.2.1) S0).2.1 e.2.2.2.2.2.2.1).2 e.2.2.2.2.2.1).map fun p => (wrL sh (idxS sh e.2.2.2.1) ((rdL sh (idxS sh e.2.2.2.1) S0).1, (rdL sh (idxS sh e.2.2.2.1) S0).2.1, p.1, ()), p.2)

theorem impl_late_ex {k : Nat} (hk : 1048577 < k) {b : TBooks} (hs : SmS b.1) (e : TEv) :
    ∃ code, VF.impl_late k b e = some ((((lateB b.1 e).getD (b.1, 0)).2, code, ()), (((lateB b.1 e).getD (b.1, 0)).1, b.2.1, b.2.2.1, ()), ()) ∧ (code = 0 ↔ (lateB b.1 e).isSome = true) := by
  obtain ⟨hl, hss⟩ := hs
  unfold VF.impl_late
  rw [show VF.impl_shelfOf k (b.1, b.2.1, b.2.2.1, ()) e.2.2.2.1 = _ from impl_shelf_eq hk hl _]
  simp only [bnd_some', sel_if, lateB]
  rcases idxS_cases b.1 e.2.2.2.1 with ⟨h1, h2⟩ | ⟨pre, s, post, h1, h2, h3, h4⟩
  · rw [h1]; exact ⟨4, rfl, by simp⟩
  · rw [h3]
    have c1 : decide ((pre.length : Int) < 0) = false := by simp
    have c2 : ¬ (pre.length : Int) < 0 := by omega
    simp only [c1, c2, if_false, Bool.false_eq_true, join_eq]
    have hsx := hss s (by rw [h1]; simp)
    rw [inb_at h1 rfl, rdL_at h1 rfl]
    simp only [grd_true]
    have := iter_fold (s := VF.impl_late.l1 (VF.impl_late.j0 k)) (fun (a : Int × Int) (i : Nat) => ((b.1, b.2.1, b.2.2.1), (e.1, e.2.1, e.2.2.1, e.2.2.2.1, e.2.2.2.2.1, e.2.2.2.2.2.1, e.2.2.2.2.2.2.1), (pre.length : Int), a.2, (pre.length : Int), (s.2.1.length : Int), (i : Int))) s.2.1
      (fun (a : Int × Int) x => (a.1 + 1, if x = e.2.2.2.2.2.2.1 then a.1 else a.2)) (fun a => VF.impl_late.j0 k ((b.1, b.2.1, b.2.2.1), (e.1, e.2.1, e.2.2.1, e.2.2.2.1, e.2.2.2.2.1, e.2.2.2.2.2.1, e.2.2.2.2.2.2.1), (pre.length : Int), a.2)) (fun p a => a.1 = (p.length : Int))
      (fun a p x q ex h => by simp [h])
      (fun ih a p x q ex h => by
        have hl2 : p.length + (q.length + 1) = s.2.1.length := by rw [ex]; simp
        unfold VF.impl_late.l1
        have c1 : decide ((p.length : Int) < (s.2.1.length : Int)) = true := by simp; omega
        simp only [c1, sel_true]
        rw [rdL_at h1 rfl, inb_at ex rfl, rdL_at ex rfl, w64 (by omega) (by omega)]
        simp only [grd_true, sel_if, decide_eq_true_eq]
        by_cases hx : x = e.2.2.2.2.2.2.1
        · simp only [hx, if_true, h]; rfl
        · simp only [hx, if_false]; rfl)
      (fun ih a h => by simp [VF.impl_late.l1])
      (k := k) (by omega) (a := (0, -1)) rfl
    have h5 : iter (VF.impl_late.l1 (VF.impl_late.j0 k)) k ((b.1, b.2.1, b.2.2.1), (e.1, e.2.1, e.2.2.1, e.2.2.2.1, e.2.2.2.2.1, e.2.2.2.2.2.1, e.2.2.2.2.2.2.1), (pre.length : Int), -1, (pre.length : Int), (s.2.1.length : Int), 0) = _ := this
    rw [h5]
    unfold VF.impl_late.j0
    have hf : (List.foldl (fun (a : Int × Int) x => (a.1 + 1, if x = e.2.2.2.2.2.2.1 then a.1 else a.2)) (0, -1) s.2.1).2 = (lastI s.2.1 e.2.2.2.2.2.2.1).2 := rfl
    simp only [hf]
    simp only [sel_if, decide_eq_true_eq]
    by_cases h6 : (lastI s.2.1 e.2.2.2.2.2.2.1).2 < 0
    · simp only [h6, if_true]
      exact ⟨4, rfl, by simp⟩
    · simp only [h6, if_false]
      rw [rdL_at h1 rfl, impl_late_eq hk hsx.2.2]
      simp only [bnd_some']
      cases lateL s.2.2.1 (lastI s.2.1 e.2.2.2.2.2.2.1).2 e.2.2.2.2.2.1 with
      | none => exact ⟨2, rfl, by simp⟩
      | some p => exact ⟨0, rfl, by simp⟩
end VM
