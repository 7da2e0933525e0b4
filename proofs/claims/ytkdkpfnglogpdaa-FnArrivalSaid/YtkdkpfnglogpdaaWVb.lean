/- The reference's books at an event. -/
import Derived.Test.YtkdkpfnglogpdaaWVa
set_option linter.unusedVariables false
set_option linter.unusedSimpArgs false
namespace VM
open Go

theorem spec_receive_ex {k : Nat} (hk : 1048577 < k) {b : TBooks} (hs : SmS b.1) (h12 : b.1.length ≤ 12) (e : TEv) :
    ∃ b' code, VF.spec_l36Receive k b e = some ((b', code, ()), ()) ∧ (code = 0 ↔ (recB b.1 e).isSome = true) ∧ ∀ sh, recB b.1 e = some sh → b' = (sh, b.2.1, b.2.2.1, ()) := by
  obtain ⟨hl, hss⟩ := hs
  unfold VF.spec_l36Receive
  rw [show VF.spec_l36Shelf k (b.1, b.2.1, b.2.2.1, ()) e.2.2.2.1 = _ from spec_shelf_eq hk hl _]
  simp only [bnd_some', join_eq, sel_if, recB]
  rcases idxS_cases b.1 e.2.2.2.1 with ⟨h1, h2⟩ | ⟨pre, s, post, h1, h2, h3, h4⟩
  · rw [h1]
    simp only [show (-1 : Int) < 0 by decide, decide_true, if_true]
    generalize hJ : VF.spec_l36Receive.j3 (VF.spec_l36Receive.j2 k) = J
    have := iter_run (A := Unit) (s := VF.spec_l36Receive.l4 J) (st := fun _ (i : Nat) => ((b.1, b.2.1, b.2.2.1), (e.1, e.2.1, e.2.2.1, e.2.2.2.1, e.2.2.2.2.1, e.2.2.2.2.2.1, e.2.2.2.2.2.2.1), (([] : List TShelf), (0 : Int), ([] : List TDoc)), (i : Int))) b.1
      (fun post _ => J ((b.1, b.2.1, b.2.2.1), (e.1, e.2.1, e.2.2.1, e.2.2.2.1, e.2.2.2.2.1, e.2.2.2.2.2.1, e.2.2.2.2.2.2.1), ([], 0, []), ((b.1.length - post.length + (insT post e.2.2.2.1).length : Nat) : Int))) (fun _ _ => True)
      (fun ih a pre x post ex _ hI => by
        have hl2 : pre.length + (post.length + 1) = b.1.length := by rw [ex]; simp
        unfold VF.spec_l36Receive.l4
        have c1 : decide ((pre.length : Int) < (b.1.length : Int)) = true := by simp; omega
        simp only [c1, sel_true]
        rw [inb_at ex rfl, rdL_at ex rfl, w64 (by omega) (by omega)]
        simp only [grd_true, sel_if, insT, List.takeWhile_cons]
        by_cases hx : ltS x.1 e.2.2.2.1 = true
        · simp only [hx, if_true, List.length_cons]
          have := hI () trivial
          rw [show ((pre.length : Int) + 1) = ((pre.length + 1 : Nat) : Int) by omega, this]
          unfold insT
          rw [show b.1.length - (post.length + 1) + ((post.takeWhile (fun s => ltS s.1 e.2.2.2.1)).length + 1) = b.1.length - post.length + (post.takeWhile (fun s => ltS s.1 e.2.2.2.1)).length by omega]
        · simp only [hx, if_false, Bool.false_eq_true, List.length_nil, List.length_cons]
          rw [show b.1.length - (post.length + 1) + 0 = pre.length by omega])
      (fun ih a _ => by
        unfold VF.spec_l36Receive.l4
        simp [insT])
      (k := k) (by omega) (a := ()) trivial
    have h5 : iter (VF.spec_l36Receive.l4 J) k ((b.1, b.2.1, b.2.2.1), (e.1, e.2.1, e.2.2.1, e.2.2.2.1, e.2.2.2.2.1, e.2.2.2.2.2.1, e.2.2.2.2.2.2.1), ([], 0, []), 0) = _ := this
    rw [h5]
    subst hJ
    simp only [Nat.sub_self, Nat.zero_add]
    have hsp : b.1 = insT b.1 e.2.2.2.1 ++ b.1.dropWhile (fun s => ltS s.1 e.2.2.2.1) := List.takeWhile_append_dropWhile.symm
    unfold insS
    generalize insT b.1 e.2.2.2.1 = T at *
    generalize b.1.dropWhile (fun s => ltS s.1 e.2.2.2.1) = D at *
    have hTD : T.length + D.length = b.1.length := by have := congrArg List.length hsp; simp at this; omega
    have hif : (if 12 ≤ b.1.length then none else recAt (T ++ (e.2.2.2.1, [], [], ()) :: D) (T.length : Int) e) = (if 12 < (T ++ (e.2.2.2.1, [], [], ()) :: D).length then none else recAt (T ++ (e.2.2.2.1, [], [], ()) :: D) (T.length : Int) e) := by
      by_cases h : 12 ≤ b.1.length
      · rw [if_pos h, if_pos (by simp; omega)]
      · rw [if_neg h, if_neg (by simp; omega)]
    rw [hif]
    have hbl : b.1.length = T.length + D.length := hTD.symm
    rw [hsp]
    unfold VF.spec_l36Receive.j3
    simp only [subL_left, subL_right, List.nil_append, List.append_assoc, List.singleton_append]
    rw [grd_of, grd_of, grd_of, grd_of, grd_of]
    · obtain ⟨b', code, e1, e2, e3⟩ := spec_recAt_ex hk (pre := T) (post := D) (s := (e.2.2.2.1, [], [], ())) b.2.1 b.2.2.1 e ([], 0, []) (by simp) (by simp)
      exact ⟨b', code, e1, e2, e3⟩
    all_goals first | exact fits_of (by decide) (by first | omega | (simp; omega)) | (simp; done) | (simp; omega) | skip
    simp only [decide_true, Bool.true_and, Int.le_refl]
    exact fits_of (by decide) (by simp; omega)
  · rw [h3]
    have c1 : decide ((pre.length : Int) < 0) = false := by simp
    have c2 : ¬ (pre.length : Int) < 0 := by omega
    simp only [c1, c2, if_false, Bool.false_eq_true]
    have hsx := hss s (by rw [h1]; simp)
    obtain ⟨b', code, e1, e2, e3⟩ := spec_recAt_ex hk (pre := pre) (post := post) (s := s) b.2.1 b.2.2.1 e ([], 0, []) hsx.2.1 hsx.2.2
    rw [← h1] at e1 e2 e3
    rw [if_neg (by omega)] at e2 e3
    exact ⟨b', code, e1, e2, e3⟩

/-- Accounts beside amounts. -/
def zipE : List Key → List Int → List TEnt
  | a :: ax, x :: xs => (a, x, ()) :: zipE ax xs
  | _, _ => []

theorem spec_post_ex {k : Nat} (hk : 1048577 < k) {b : TBooks} (hd : SmD b.2.2.1) (hdl : b.2.2.1.length ≤ 1000) (day : Int) {ax : List Key} {xs : List Int} (hlen : ax.length = xs.length) (hel : ax.length ≤ 12) (he : SmE (zipE ax xs)) :
    ∃ code, VF.spec_l36Post k b day ax xs = some (((b.1, b.2.1, (postB k b.2.2.1 day (zipE ax xs)).getD b.2.2.1, ()), code, ()), ()) ∧ (code = 0 ↔ (postB k b.2.2.1 day (zipE ax xs)).isSome = true) := by
  unfold VF.spec_l36Post
  simp only [join_eq]
  have key : ∀ (bs : List Key) (ys : List Int) (pa : List Key) (px : List Int) (acc : List TEnt), ax = pa ++ bs → xs = px ++ ys → pa.length = px.length → bs.length = ys.length → acc.length ≤ pa.length → ∀ n, bs.length < n →
      iter (VF.spec_l36Post.l1 ax xs (VF.spec_l36Post.j0 k day)) n ((b.1, b.2.1, b.2.2.1), ([], 0, []), acc, (pa.length : Int)) = VF.spec_l36Post.j0 k day ((b.1, b.2.1, b.2.2.1), ([], 0, []), acc ++ filtE (zipE bs ys)) := by
    intro bs
    induction bs with
    | nil =>
      intro ys pa px acc h1 h2 h3 h4 h5 n hn
      obtain ⟨n, rfl⟩ : ∃ m, n = m + 1 := ⟨n - 1, by omega⟩
      rw [iter_succ]
      unfold VF.spec_l36Post.l1
      simp only [List.append_nil] at h1
      subst h1
      simp [zipE, filtE]
    | cons a bs ih =>
      intro ys pa px acc h1 h2 h3 h4 h5 n hn
      obtain ⟨n, rfl⟩ : ∃ m, n = m + 1 := ⟨n - 1, by omega⟩
      cases ys with
      | nil => simp at h4
      | cons y ys =>
        have hIH := fun acc h => ih ys (pa ++ [a]) (px ++ [y]) acc (by simpa using h1) (by simpa using h2) (by simpa using h3) (by simpa using h4) h n (by simp at hn; omega)
        rw [iter_succ]
        generalize iter (VF.spec_l36Post.l1 ax xs (VF.spec_l36Post.j0 k day)) n = I at *
        have hal : pa.length + (bs.length + 1) = ax.length := by rw [h1]; simp
        unfold VF.spec_l36Post.l1
        have c1 : decide ((pa.length : Int) < (ax.length : Int)) = true := by simp; omega
        simp only [c1, sel_true]
        rw [inb_at h2 (by rw [h3]), rdL_at h2 (by rw [h3]), inb_at h1 rfl, rdL_at h1 rfl, w64 (by omega) (by omega), fits_of (by decide) (by omega)]
        simp only [grd_true, sel_if]
        by_cases hy : y = 0
        · have := hIH acc (by simp; omega)
          simp only [hy, decide_true, Bool.not_true, Bool.false_eq_true, if_false]
          rw [show ((pa.length : Int) + 1) = ((pa ++ [a]).length : Int) by simp, this]
          simp [zipE, filtE]
        · have := hIH (acc ++ [(a, y, ())]) (by simp; omega)
          simp only [hy, decide_false, Bool.not_false, if_true]
          rw [show ((pa.length : Int) + 1) = ((pa ++ [a]).length : Int) by simp, this]
          simp [zipE, filtE, hy]
  have h5 := key ax xs [] [] [] rfl rfl rfl hlen (by simp) k (by omega)
  have h6 : iter (VF.spec_l36Post.l1 ax xs (VF.spec_l36Post.j0 k day)) k ((b.1, b.2.1, b.2.2.1), ([], 0, []), [], 0) = _ := h5
  rw [h6]
  simp only [List.nil_append]
  unfold VF.spec_l36Post.j0 postB
  have hzl : ∀ (ax : List Key) (xs : List Int), (zipE ax xs).length ≤ ax.length := by
    intro ax
    induction ax with
    | nil => intro xs; simp [zipE]
    | cons a ax ih =>
      intro xs
      cases xs with
      | nil => simp [zipE]
      | cons x xs => have := ih xs; simp [zipE]; omega
  have hf : (filtE (zipE ax xs)).length ≤ 12 := Nat.le_trans (List.length_filter_le _ _) (Nat.le_trans (hzl ax xs) hel)
  generalize hes : zipE ax xs = es at *
  by_cases h0 : (filtE es).length = 0
  · simp only [h0, sel_if]
    exact ⟨0, rfl, by simp⟩
  · have c1 : decide (((filtE es).length : Int) = 0) = false := by simp only [decide_eq_false_iff_not]; omega
    simp only [c1, h0, sel_false, if_false]
    unfold VF.spec_PostEntries
    rw [spec_copyD_eq hk hd]
    simp only [bnd_some', List.nil_append]
    rw [fits_of (by decide) (by omega), fits_of (by decide) (by simp; omega), w64 (by omega) (by omega)]
    rw [show b.2.2.1 ++ [((b.2.2.1.length : Int) + 1, day, filtE es, ())] = newD b.2.2.1 day es from rfl, spec_AreDocuments_eq hk (newD_Sm hd hdl he day)]
    simp only [bnd_some', grd_true, sel_if]
    by_cases h4 : areDoc k (newD b.2.2.1 day es) = true
    · simp only [h4, Bool.not_true, Bool.false_eq_true, if_false, if_true, bnd_some']
      exact ⟨0, rfl, by simp⟩
    · simp only [h4, Bool.not_false, if_true, if_false, bnd_some', Bool.not_true, Bool.false_eq_true]
      exact ⟨3, rfl, by simp⟩

theorem spec_issue_ex {k : Nat} (hk : 1048577 < k) {b : TBooks} (hs : SmS b.1) (e : TEv) :
    ∃ code, VF.spec_l36Issue k b e = some (((((issB b.1 e).getD (b.1, 0)).1, b.2.1, b.2.2.1, ()), ((issB b.1 e).getD (b.1, 0)).2, code, ()), ()) ∧ (code = 0 ↔ (issB b.1 e).isSome = true) := by
  obtain ⟨hl, hss⟩ := hs
  unfold VF.spec_l36Issue
  rw [show VF.spec_l36Shelf k (b.1, b.2.1, b.2.2.1, ()) e.2.2.2.1 = _ from spec_shelf_eq hk hl _]
  simp only [bnd_some', sel_if, issB]
  rcases idxS_cases b.1 e.2.2.2.1 with ⟨h1, h2⟩ | ⟨pre, s, post, h1, h2, h3, h4⟩
  · rw [h1]; exact ⟨2, rfl, by simp⟩
  · rw [h3]
    have c1 : decide ((pre.length : Int) < 0) = false := by simp
    have c2 : ¬ (pre.length : Int) < 0 := by omega
    simp only [c1, c2, if_false, Bool.false_eq_true]
    have hsx := hss s (by rw [h1]; simp)
    rw [inb_at h1 rfl, rdL_at h1 rfl, spec_issL_eq hk hsx.2.2]
    simp only [grd_true, bnd_some', sel_if]
    cases issL s.2.2.1 e.2.2.2.2.1 with
    | none => exact ⟨2, rfl, by simp⟩
    | some p => exact ⟨0, rfl, by simp⟩
end VM
