/- What the functions of FirmDealings compute: adding, totals, marks. -/
import Derived.Test.YtkdkpfnglogpdaaVQa
set_option linter.unusedVariables false
set_option linter.unusedSimpArgs false
namespace VM
open Go

theorem subL_left {α : Type} (p q : List α) : subL (p ++ q) 0 (p.length : Int) = p := by simp [subL]
theorem subL_right {α : Type} (p q : List α) : subL (p ++ q) (p.length : Int) ((p ++ q).length : Int) = q := by
  simp [subL]
  rw [List.take_of_length_le (by omega)]
theorem addE_pre {p q : List Ent} {a : Key} {n : Int} (h : ∀ e ∈ p, e.1 < a) : addE (p ++ q) a n = p ++ addE q a n := by
  induction p with
  | nil => rfl
  | cons e p ih =>
    simp only [List.cons_append, addE, if_pos (h e (by simp)), ih fun x hx => h x (by simp [hx])]

theorem addE_j1 {p q : List Ent} {a : Key} {n : Int} (hp : ∀ e ∈ p, e.1 < a) (hq : ∀ e r, q = e :: r → ¬ e.1 < a) (hl : (p ++ q).length < 1048576) :
    VF.spec_l35Add.j1 (p ++ q) a (n, (p.length : Int)) = some ((addE (p ++ q) a n, ()), ()) := by
  have f1 : ∀ m, m ≤ 1048576 + 2 → fits m 24 = true := fun m hm => fits_of (by omega) (by omega)
  have hl' : p.length + q.length < 1048576 := by simpa using hl
  have h1 : (decide ((0 : Nat) ≤ 0) && decide (0 ≤ (p.length : Int)) && decide ((p.length : Int) ≤ ((p ++ q).length : Int))) = true := by simp; omega
  have h2 : (decide (0 ≤ (p.length : Int)) && decide ((p.length : Int) ≤ ((p ++ q).length : Int)) && decide (((p ++ q).length : Int) ≤ ((p ++ q).length : Int))) = true := by simp; omega
  have j0 : ∀ (m : Int) (r : List Ent), p.length + r.length ≤ 1048577 → VF.spec_l35Add.j0 a (m, p, r) = some (((if m = 0 then p ++ r else p ++ (a, m, ()) :: r), ()), ()) := by
    intro m r hr
    simp only [VF.spec_l35Add.j0]
    by_cases hm : m = 0
    · simp only [hm, decide_true, Bool.not_true, sel_false, if_true]
      rw [f1 _ (by omega), grd_true]
    · simp only [hm, decide_false, Bool.not_false, sel_true, if_false]
      rw [f1 _ (by simp; omega), grd_true, f1 _ (by simp; omega), grd_true]
      simp
  simp only [VF.spec_l35Add.j1, h1, h2, grd_true, subL_left, subL_right, Nat.zero_add, List.nil_append, join_eq]
  rw [f1 _ (by omega), grd_true, addE_pre hp]
  cases q with
  | nil =>
    simp only [List.length_nil, Int.natCast_zero, Int.lt_irrefl, decide_false, sel_false]
    rw [j0 _ _ (by simp; omega)]
    simp only [addE]
    split <;> simp
  | cons e r =>
    have hlt := hq e r rfl
    have g1 : decide (0 < (((e :: r).length : Nat) : Int)) = true := by simp only [decide_eq_true_eq, List.length_cons]; omega
    have g2 : inb (e :: r) 0 = true := by simp only [inb, Bool.and_eq_true, decide_eq_true_eq, List.length_cons]; omega
    have g3 : rdL (e :: r) 0 ([], 0, ()) = e := rfl
    have g4 : (decide ((0 : Nat) ≤ 1) && decide (1 ≤ (((e :: r).length : Nat) : Int)) && decide ((((e :: r).length : Nat) : Int) ≤ (((e :: r).length : Nat) : Int))) = true := by simp; omega
    have g5 : subL (e :: r) 1 (((e :: r).length : Nat) : Int) = r := by simp [subL]
    simp only [List.length_cons] at hl'
    simp only [g1, g2, g3, g4, g5, sel_true, grd_true]
    rw [j0 n (e :: r) (by simp; omega), j0 _ r (by omega)]
    simp only [addE, if_neg hlt]
    by_cases he : e.1 = a
    · simp only [he, decide_true, sel_true, if_true]
      split <;> rfl
    · simp only [he, decide_false, sel_false, if_false]
      split <;> rfl

theorem l35Add_eq {k : Nat} {l : List Ent} {a : Key} {n : Int} (hk : l.length < k) (hl : l.length < 1048576) : VF.spec_l35Add k l a n = some ((addE l a n, ()), ()) := by
  unfold VF.spec_l35Add
  rw [join_eq]
  have key : ∀ (post pre : List Ent), l = pre ++ post → (∀ e ∈ pre, e.1 < a) → ∀ k, post.length < k → iter (VF.spec_l35Add.l2 l a (VF.spec_l35Add.j1 l a)) k (n, (pre.length : Int)) = some ((addE l a n, ()), ()) := by
    intro post
    induction post with
    | nil =>
      intro pre hx hp k hk
      cases k with
      | zero => omega
      | succ k =>
        rw [iter_succ]
        rw [List.append_nil] at hx
        subst hx
        simp only [VF.spec_l35Add.l2, Int.lt_irrefl, decide_false, sel_false]
        have := addE_j1 (p := l) (q := []) (a := a) (n := n) hp (by simp) (by simpa using hl)
        simpa using this
    | cons e post ih =>
      intro pre hx hp k hk
      cases k with
      | zero => omega
      | succ k =>
        rw [iter_succ]
        have hpl : pre.length < 1099511627776 := by rw [hx] at hl; simp at hl; omega
        have h1 : decide ((pre.length : Int) < (l.length : Int)) = true := by rw [hx]; exact lt_mid _ _ _
        have h2 : inb l (pre.length : Int) = true := by rw [hx]; exact inb_mid _ _ _
        have h3 : rdL l (pre.length : Int) ([], 0, ()) = e := by rw [hx]; exact rdL_mid _ _ _ _
        simp only [VF.spec_l35Add.l2, h1, h2, h3, sel_true, grd_true, ltS_eq, wnext hpl]
        by_cases he : e.1 < a
        · simp only [he, decide_true, sel_true]
          have := ih (pre ++ [e]) (by simpa using hx) (fun x hx => by
            rcases List.mem_append.1 hx with hx | hx
            · exact hp x hx
            · simp only [List.mem_singleton] at hx; subst hx; exact he) k (by simp at hk; omega)
          simpa using this
        · simp only [he, decide_false, sel_false]
          have := addE_j1 (p := pre) (q := e :: post) (a := a) (n := n) hp (fun e' r h => by cases h; exact he) (by rw [← hx]; exact hl)
          rwa [← hx] at this
  exact key l [] rfl (by simp) k hk

theorem addE_length (l : List Ent) (a : Key) (n : Int) : (addE l a n).length ≤ l.length + 1 := by
  induction l with
  | nil => simp only [addE]; split <;> simp
  | cons e l ih =>
    simp only [addE]
    split
    · simp; omega
    · split
      · split
        · simp; omega
        · simp
      · split <;> simp

/-! ### totals -/
theorem totals_eq {k : Nat} {l : List Ent} (hk : l.length < k) (hl : l.length < 1048576) : VF.impl_totals k l = some ((tots l, ()), ()) := by
  unfold VF.impl_totals
  rw [join_eq]
  have f1 : ∀ m, m ≤ 1048576 + 2 → fits m 24 = true := fun m hm => fits_of (by omega) (by omega)
  have f2 : ∀ m, m ≤ 1048576 + 2 → fits m 16 = true := fun m hm => fits_of (by omega) (by omega)
  have h1 := iter_fold (s := VF.impl_totals.l3 (VF.impl_totals.j2 k)) (fun (a : List (Key × Int) × List Key) n => (a.1, a.2, l, (l.length : Int), (n : Int))) l totStep (VF.impl_totals.j2 k)
    (fun pre a => a.2.length ≤ pre.length)
    (fun a pre x post hx ha => by
      simp only [totStep]
      split
      · simp; omega
      · simp; omega)
    (fun ih a pre x post hx ha => by
      have hpl : pre.length < 1099511627776 := by rw [hx] at hl; simp at hl; omega
      have hal : a.2.length + [x.1].length ≤ 1048578 := by rw [hx] at hl; simp at hl ⊢; omega
      have g1 : decide ((pre.length : Int) < (l.length : Int)) = true := by rw [hx]; exact lt_mid _ _ _
      have g2 : inb l (pre.length : Int) = true := by rw [hx]; exact inb_mid _ _ _
      have g3 : rdL l (pre.length : Int) ([], 0, ()) = x := by rw [hx]; exact rdL_mid _ _ _ _
      simp only [VF.impl_totals.l3, g1, g2, g3, sel_true, grd_true, wnext hpl, totStep]
      rw [f2 _ hal, grd_true]
      cases mhas a.1 x.1 <;> rfl)
    (fun ih a ha => by simp [VF.impl_totals.l3])
    hk (a := ([], [])) (by simp)
  rw [show ((0 : Nat) : Int) = 0 from rfl] at h1
  simp only at h1
  rw [h1]
  show VF.impl_totals.j2 k (totMap l) = _
  obtain ⟨_, _, _, hlen⟩ := totMap_spec l
  unfold VF.impl_totals.j2
  have hs : VF.slices_Sort_string_string k (totMap l).2 = some ((), (sortS (totMap l).2, ())) := by
    unfold VF.slices_Sort_string_string runSortS
    have : decide ((totMap l).2.length < 4611686018427387904) = true := by simp; omega
    rw [this]; rfl
  rw [hs, bnd_some', join_eq]
  have hsl := sortS_length (totMap l).2
  generalize hks : sortS (totMap l).2 = ks at hsl
  generalize hmm : (totMap l).1 = m
  have h2 := iter_fold (s := VF.impl_totals.l1 VF.impl_totals.j0) (fun (a : List Ent) n => (m, a, ks, (ks.length : Int), (n : Int))) ks (fun out a => if mfd m a 0 = 0 then out else out ++ [(a, mfd m a 0, ())]) VF.impl_totals.j0
    (fun pre a => a.length ≤ pre.length)
    (fun a pre x post hx ha => by
      show (if mfd m x 0 = 0 then a else a ++ [(x, mfd m x 0, ())]).length ≤ (pre ++ [x]).length
      split
      · simp; omega
      · simp; omega)
    (fun ih a pre x post hx ha => by
      have hx' := congrArg List.length hx
      simp at hx'
      have hpl : pre.length < 1099511627776 := by omega
      have hal : ∀ z : Ent, a.length + [z].length ≤ 1048578 := by intro z; simp; omega
      have g1 : decide ((pre.length : Int) < (ks.length : Int)) = true := by rw [hx]; exact lt_mid _ _ _
      have g2 : inb ks (pre.length : Int) = true := by rw [hx]; exact inb_mid _ _ _
      have g3 : rdL ks (pre.length : Int) [] = x := by rw [hx]; exact rdL_mid _ _ _ _
      simp only [VF.impl_totals.l1, g1, g2, g3, sel_true, grd_true, wnext hpl]
      rw [f1 _ (hal _), grd_true]
      by_cases h0 : mfd m x 0 = 0 <;> simp [h0])
    (fun ih a ha => by simp [VF.impl_totals.l1])
    (k := k) (by omega) (a := []) (by simp)
  rw [show ((0 : Nat) : Int) = 0 from rfl] at h2
  simp only at h2 ⊢
  rw [h2]
  simp only [VF.impl_totals.j0, tots, totOut, hks, hmm]

/-! ### marks -/
def mtxG : Nat → Int → List UInt8 → List UInt8
  | 0, _, acc => acc
  | f + 1, n, acc => if 0 < n then mtxG f (IntKind.wrap .i64 (n.tdiv 10)) (bytesOf [IntKind.wrap .u8 (IntKind.wrap .i64 (48 + n.tmod 10))] ++ acc) else acc
def mtx (n : Int) : List UInt8 := if n ≤ 0 then [109, 48] else [109] ++ mtxG 19 n []

theorem mtxG_run : ∀ (f : Nat) (n : Int) (acc : List UInt8), 0 ≤ n → n < 9223372036854775808 → n < 10 ^ f → acc.length + f < 1000 → (mtxG f n acc).length ≤ acc.length + f ∧
    ∀ k, f < k → ∀ J : List UInt8 → Option ((List UInt8 × Unit) × PUnit), iter (VF.laws_markText.l1 J) k (n, acc) = J (mtxG f n acc)
  | 0, n, acc, h0, hm, h, hl => by
    have : n = 0 := by simp at h; omega
    subst this
    refine ⟨by simp [mtxG], fun k hk J => ?_⟩
    cases k with
    | zero => omega
    | succ k => rw [iter_succ]; simp [VF.laws_markText.l1, mtxG]
  | f + 1, n, acc, h0, hm, h, hl => by
    by_cases hn : 0 < n
    · have hd : n.tdiv 10 = n / 10 := by rw [Int.tdiv_eq_ediv_of_nonneg h0]
      have hw : IntKind.wrap .i64 (n.tdiv 10) = n / 10 := by rw [hd]; exact w64 (by omega) (by omega)
      have hlt : n / 10 < 10 ^ f := by
        rw [Int.pow_succ] at h
        omega
      have hbl : (bytesOf [IntKind.wrap .u8 (IntKind.wrap .i64 (48 + n.tmod 10))]).length = 1 := by simp [bytesOf]
      obtain ⟨i1, i2⟩ := mtxG_run f (n / 10) (bytesOf [IntKind.wrap .u8 (IntKind.wrap .i64 (48 + n.tmod 10))] ++ acc) (by omega) (by omega) hlt (by rw [List.length_append, hbl]; omega)
      rw [List.length_append, hbl] at i1
      simp only [mtxG, if_pos hn, hw]
      refine ⟨by omega, fun k hk J => ?_⟩
      cases k with
      | zero => omega
      | succ k =>
        rw [iter_succ]
        have g : decide ((bytesOf [IntKind.wrap .u8 (IntKind.wrap .i64 (48 + n.tmod 10))]).length + acc.length ≤ 4611686018427387904) = true := by rw [hbl]; simp; omega
        simp only [VF.laws_markText.l1, hn, decide_true, sel_true, g, grd_true, hw]
        exact i2 k (by omega) J
    · simp only [mtxG, if_neg hn]
      refine ⟨by omega, fun k hk J => ?_⟩
      cases k with
      | zero => omega
      | succ k => rw [iter_succ]; simp [VF.laws_markText.l1, hn]

theorem markText_eq {k : Nat} (hk : 19 < k) {n : Int} (hn : n < 9223372036854775808) : VF.laws_markText k n = some ((mtx n, ()), ()) := by
  unfold VF.laws_markText mtx
  by_cases h : n ≤ 0
  · simp [h]
  · simp only [h, decide_false, sel_false, join_eq, if_false]
    obtain ⟨h1, h2⟩ := mtxG_run 19 n [] (by omega) hn (by omega) (by simp)
    rw [h2 k hk]
    unfold VF.laws_markText.j0
    exact grd_of (by simp at h1 ⊢; omega) _

def marksE : List Ent → Int → List Ent
  | [], _ => []
  | _ :: l, m => (mtx m, m + 1, ()) :: marksE l (m + 2)
theorem marksE_length : ∀ (l : List Ent) (m : Int), (marksE l m).length = l.length
  | [], _ => rfl
  | _ :: l, m => by simp [marksE, marksE_length l]
theorem markEntryS_eq {k : Nat} (hk19 : 19 < k) {l : List Ent} {m : Int} (hk : l.length < k) (hl : l.length < 1099511627776) (hm : 0 ≤ m ∧ m < 1152921504606846976) :
    VF.laws_markEntryS k l m = some ((m + 2 * l.length, ()), (marksE l m, ())) := by
  unfold VF.laws_markEntryS
  rw [join_eq]
  have key : ∀ (post pre : List Ent) (m : Int) (j : Nat), j < k + 1 → post.length < j → 0 ≤ m → m + 2 * post.length < 4611686018427387904 → pre.length + post.length < 1099511627776 →
      iter (VF.laws_markEntryS.l2 k VF.laws_markEntryS.j0) j (pre ++ post, m, (pre.length : Int)) = some ((m + 2 * post.length, ()), (pre ++ marksE post m, ())) := by
    intro post
    induction post with
    | nil =>
      intro pre m j hj1 hj h0 h1 h2
      cases j with
      | zero => omega
      | succ j => rw [iter_succ]; simp [VF.laws_markEntryS.l2, VF.laws_markEntryS.j0, marksE]
    | cons e post ih =>
      intro pre m j hj1 hj h0 h1 h2
      simp only [List.length_cons] at h1 h2 hj
      cases j with
      | zero => omega
      | succ j =>
        rw [iter_succ]
        have w1 : IntKind.wrap .i64 (m + 1) = m + 1 := w64 (by omega) (by omega)
        have w2 : IntKind.wrap .i64 (m + 1 + 1) = m + 2 := by rw [w64 (by omega) (by omega)]; omega
        simp only [VF.laws_markEntryS.l2, VF.laws_markEntryS.j1, lt_mid, sel_true, join_eq, inb_mid, grd_true, rdL_mid, wrL_mid, markText_eq hk19 (show m < 9223372036854775808 by omega), bnd_some', w1, w2, wnext (show pre.length < 1099511627776 by omega)]
        have := ih (pre ++ [(mtx m, m + 1, ())]) (m + 2) j (by omega) (by omega) (by omega) (by omega) (by simp; omega)
        simp only [List.append_assoc, List.singleton_append, List.length_append, List.length_cons, List.length_nil, Nat.zero_add] at this
        rw [this]
        simp only [marksE, List.length_cons]
        congr 3
        omega
  have := key l [] m k (by omega) hk hm.1 (by omega) (by simpa using hl)
  simpa using this

theorem heldEntryS_eq {k : Nat} (hk19 : 19 < k) {l : List Ent} {m : Int} (hk : l.length < k) (hl : l.length < 1099511627776) (hm : 0 ≤ m ∧ m < 1152921504606846976) :
    VF.laws_heldEntryS k (marksE l m) m = some ((m + 2 * l.length, ()), ()) := by
  unfold VF.laws_heldEntryS
  rw [join_eq]
  generalize hX : marksE l m = X
  have key : ∀ (post : List Ent) (pre : List Ent) (m : Int) (j : Nat), X = pre ++ marksE post m → j < k + 1 → post.length < j → 0 ≤ m → m + 2 * post.length < 4611686018427387904 → pre.length + post.length < 1099511627776 →
      iter (VF.laws_heldEntryS.l1 k X VF.laws_heldEntryS.j0) j (m, (pre.length : Int)) = some ((m + 2 * post.length, ()), ()) := by
    intro post
    induction post with
    | nil =>
      intro pre m j hx hj1 hj h0 h1 h2
      cases j with
      | zero => omega
      | succ j => rw [iter_succ]; rw [hx]; simp [VF.laws_heldEntryS.l1, VF.laws_heldEntryS.j0, marksE]
    | cons e post ih =>
      intro pre m j hx hj1 hj h0 h1 h2
      simp only [List.length_cons] at h1 h2 hj
      cases j with
      | zero => omega
      | succ j =>
        rw [iter_succ]
        have w1 : IntKind.wrap .i64 (m + 1) = m + 1 := w64 (by omega) (by omega)
        have w2 : IntKind.wrap .i64 (m + 1 + 1) = m + 2 := by rw [w64 (by omega) (by omega)]; omega
        have hx' : X = pre ++ (mtx m, m + 1, ()) :: marksE post (m + 2) := hx
        have g1 : decide ((pre.length : Int) < (X.length : Int)) = true := by rw [hx']; exact lt_mid _ _ _
        have g2 : inb X (pre.length : Int) = true := by rw [hx']; exact inb_mid _ _ _
        have g3 : rdL X (pre.length : Int) ([], 0, ()) = (mtx m, m + 1, ()) := by rw [hx']; exact rdL_mid _ _ _ _
        simp only [VF.laws_heldEntryS.l1, g1, g2, g3, sel_true, grd_true, markText_eq hk19 (show m < 9223372036854775808 by omega), bnd_some', w1, w2, wnext (show pre.length < 1099511627776 by omega), decide_true, Bool.not_true, sel_false]
        have := ih (pre ++ [(mtx m, m + 1, ())]) (m + 2) j (by rw [hx']; simp) (by omega) (by omega) (by omega) (by omega) (by simp; omega)
        simp only [List.length_append, List.length_cons, List.length_nil, Nat.zero_add] at this
        rw [this]
        simp only [List.length_cons]
        congr 3
        omega
  have := key l [] m k hX.symm (by omega) hk hm.1 (by omega) (by simpa using hl)
  simpa using this

def marksD : List D4 → Int → List D4
  | [], _ => []
  | _ :: l, m => (m, m + 1, m + 2, m + 3, ()) :: marksD l (m + 4)
theorem markDealingS_eq {k : Nat} {l : List D4} {m : Int} (hk : l.length < k) (hl : l.length < 1099511627776) (hm : 0 ≤ m ∧ m < 1152921504606846976) :
    VF.laws_markDealingS k l m = some ((m + 4 * l.length, ()), (marksD l m, ())) := by
  unfold VF.laws_markDealingS
  rw [join_eq]
  have key : ∀ (post pre : List D4) (m : Int) (j : Nat), post.length < j → 0 ≤ m → m + 4 * post.length < 4611686018427387904 → pre.length + post.length < 1099511627776 →
      iter (VF.laws_markDealingS.l4 VF.laws_markDealingS.j0) j (pre ++ post, m, (pre.length : Int)) = some ((m + 4 * post.length, ()), (pre ++ marksD post m, ())) := by
    intro post
    induction post with
    | nil =>
      intro pre m j hj h0 h1 h2
      cases j with
      | zero => omega
      | succ j => rw [iter_succ]; simp [VF.laws_markDealingS.l4, VF.laws_markDealingS.j0, marksD]
    | cons e post ih =>
      intro pre m j hj h0 h1 h2
      simp only [List.length_cons] at h1 h2 hj
      cases j with
      | zero => omega
      | succ j =>
        rw [iter_succ]
        have w1 : IntKind.wrap .i64 (m + 1) = m + 1 := w64 (by omega) (by omega)
        have w2 : IntKind.wrap .i64 (m + 1 + 1) = m + 2 := by rw [w64 (by omega) (by omega)]; omega
        have w3 : IntKind.wrap .i64 (m + 2 + 1) = m + 3 := by rw [w64 (by omega) (by omega)]; omega
        have w4 : IntKind.wrap .i64 (m + 3 + 1) = m + 4 := by rw [w64 (by omega) (by omega)]; omega
        simp only [VF.laws_markDealingS.l4, VF.laws_markDealingS.j3, VF.laws_markDealingS.j2, VF.laws_markDealingS.j1, lt_mid, sel_true, join_eq, inb_mid, grd_true, rdL_mid, wrL_mid, w1, w2, w3, w4, wnext (show pre.length < 1099511627776 by omega)]
        have := ih (pre ++ [(m, m + 1, m + 2, m + 3, ())]) (m + 4) j (by omega) (by omega) (by omega) (by simp; omega)
        simp only [List.append_assoc, List.singleton_append, List.length_append, List.length_cons, List.length_nil, Nat.zero_add] at this
        rw [this]
        simp only [marksD, List.length_cons]
        congr 3
        omega
  have := key l [] m k hk hm.1 (by omega) (by simpa using hl)
  simpa using this
end VM
