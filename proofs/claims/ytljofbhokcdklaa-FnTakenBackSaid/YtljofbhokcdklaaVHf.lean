/- What is drawn: periods; balances. -/
import Derived.Test.YtljofbhokcdklaaVHe
set_option linter.unusedVariables false
set_option linter.unusedSimpArgs false
namespace VM
open Go

theorem balance_ex {k : Nat} (hk : 1048577 < k) {l : List Doc} (hl : Few 100 l) (a : Key) (day : Int) : ∃ v, VF.spec_BalanceOf k l a day = some ((v, ()), ()) := by
  have h100 := hl.1
  unfold VF.spec_BalanceOf
  rw [join_eq]
  have hd := spec_AreDocuments_eq hk (hl.sm (by omega))
  cases ha : areDoc k l with
  | false =>
    obtain ⟨k', rfl⟩ : ∃ k', k = k' + 1 := ⟨k - 1, by omega⟩
    rw [iter_succ]
    simp only [VF.spec_BalanceOf.l3]
    rw [hd, bnd_some', ha]
    cases decide (0 < (l.length : Int)) <;> exact ⟨_, rfl⟩
  | true =>
    let f : Int → Doc → Int := fun s d => if d.2.1 ≤ day then d.2.2.1.foldl (fun s e => if e.1 = a then IntKind.wrap .i64 (s + e.2.1) else s) s else s
    have h1 := iter_fold (s := VF.spec_BalanceOf.l3 k l a day VF.spec_BalanceOf.j0) (fun (r : Int) i => (r, (i : Int))) l f VF.spec_BalanceOf.j0 (fun _ _ => True)
      (fun _ _ _ _ _ _ => trivial)
      (fun ih r pre x post hx _ => by
        have hpl : pre.length < 1099511627776 := by have := congrArg List.length hx; simp at this; omega
        have hx12 := (hl.2 x (by rw [hx]; simp)).1
        have g1 : decide ((pre.length : Int) < (l.length : Int)) = true := by rw [hx]; exact lt_mid _ _ _
        have g2 : inb l (pre.length : Int) = true := by rw [hx]; exact inb_mid _ _ _
        have g3 : rdL l (pre.length : Int) (0, 0, [], ()) = x := by rw [hx]; exact rdL_mid _ _ _ _
        simp only [VF.spec_BalanceOf.l3, g1, sel_true, hd, bnd_some', ha, join_eq, f]
        by_cases hin : x.2.1 ≤ day
        · have h2 := iter_fold (s := VF.spec_BalanceOf.l2 l a day (VF.spec_BalanceOf.j1 ih)) (fun (r : Int) i => (r, (pre.length : Int), (i : Int))) x.2.2.1 (fun s e => if e.1 = a then IntKind.wrap .i64 (s + e.2.1) else s) (fun r => VF.spec_BalanceOf.j1 ih (r, (pre.length : Int))) (fun _ _ => True)
            (fun _ _ _ _ _ _ => trivial)
            (fun ih2 r q y post' hy _ => by
              have hql : q.length ≤ 12 := by rw [hy] at hx12; simp at hx12; omega
              have k1 : decide ((q.length : Int) < (x.2.2.1.length : Int)) = true := by rw [hy]; exact lt_mid _ _ _
              have k2 : inb x.2.2.1 (q.length : Int) = true := by rw [hy]; exact inb_mid _ _ _
              have k3 : rdL x.2.2.1 (q.length : Int) ([], 0, ()) = y := by rw [hy]; exact rdL_mid _ _ _ _
              simp only [VF.spec_BalanceOf.l2, g2, g3, k1, k2, k3, sel_true, grd_true, hin, decide_true, wnext (show q.length < 1099511627776 by omega)]
              by_cases hya : y.1 = a <;> simp [hya])
            (fun ih2 r _ => by simp only [VF.spec_BalanceOf.l2, g2, g3, grd_true, Int.lt_irrefl, decide_false, sel_false])
            (k := k) (by omega) (a := r) trivial
          rw [show ((0 : Nat) : Int) = 0 from rfl] at h2
          rw [h2]
          simp only [VF.spec_BalanceOf.j1, wnext (show pre.length < 1099511627776 by omega), hin, if_true]
        · obtain ⟨k', rfl⟩ : ∃ k', k = k' + 1 := ⟨k - 1, by omega⟩
          rw [iter_succ]
          simp only [VF.spec_BalanceOf.l2, g2, g3, grd_true, VF.spec_BalanceOf.j1, wnext (show pre.length < 1099511627776 by omega), hin, if_false, decide_false, sel_false]
          cases decide ((0 : Int) < (x.2.2.1.length : Int)) <;> rfl)
      (fun ih r _ => by simp [VF.spec_BalanceOf.l3])
      (k := k) (by omega) (a := 0) trivial
    rw [show ((0 : Nat) : Int) = 0 from rfl] at h1
    rw [h1]
    exact ⟨_, rfl⟩

theorem profit_ex {k : Nat} (hk : 1048577 < k) {l : List Doc} (hl : Few 100 l) (day : Int) : ∃ v, VF.spec_ProfitOn k l day = some ((v, ()), ()) := by
  unfold VF.spec_ProfitOn
  obtain ⟨v1, e1⟩ := balance_ex hk hl (Array.toList #[83, 65, 76, 69, 83]) day
  obtain ⟨v2, e2⟩ := balance_ex hk hl (Array.toList #[67, 79, 83, 84]) day
  rw [e1, bnd_some', e2]
  exact ⟨_, rfl⟩

theorem close_ex {k : Nat} (hk : 1048577 < k) {l : List Doc} (hl : Few 5 l) (day : Int) :
    ∃ (r : List Doc) (t : Bool), VF.spec_ClosePeriod k l day = some ((r, t, ()), ()) ∧ (t = true → Few 6 r) := by
  have f1 : ∀ m, m ≤ 1048576 + 2 → fits m 24 = true := fun m hm => fits_of (by omega) (by omega)
  have hl100 : Few 100 l := hl.mono (by omega)
  have hJ0 : ∀ es : List Ent, Sm8 es → ∃ (r : List Doc) (t : Bool), VF.spec_ClosePeriod.j0 k l day es = some ((r, t, ()), ()) ∧ (t = true → Few 6 r) := by
    intro es he
    unfold VF.spec_ClosePeriod.j0
    obtain ⟨r, t, e, h⟩ := post_eq hk hl (by omega) (day := day) he
    rw [e]
    exact ⟨r, t, rfl, fun ht => (h ht).1⟩
  have hJ1 : ∀ es : List Ent, es.length ≤ 2 → (∀ e ∈ es, e.1.length ≤ 8) → ∃ (r : List Doc) (t : Bool), VF.spec_ClosePeriod.j1 k l day es = some ((r, t, ()), ()) ∧ (t = true → Few 6 r) := by
    intro es h2 h8
    unfold VF.spec_ClosePeriod.j1
    cases decide ((es.length : Int) = 0) with
    | true =>
      simp only [sel_true]
      rw [copy_eq hk hl100]
      exact ⟨l, true, rfl, fun _ => hl.mono (by omega)⟩
    | false =>
      simp only [sel_false, join_eq]
      obtain ⟨v, e⟩ := profit_ex hk hl100 day
      rw [e, bnd_some']
      cases decide (v = 0) with
      | true => exact hJ0 es ⟨by omega, h8⟩
      | false =>
        simp only [Bool.not_false, sel_true, bnd_some']
        rw [f1 _ (by simp only [List.length_cons, List.length_nil]; omega), grd_true]
        refine hJ0 _ ⟨by simp only [List.length_append, List.length_cons, List.length_nil]; omega, fun x hx => ?_⟩
        rcases List.mem_append.1 hx with hx | hx
        · exact h8 x hx
        · simp only [List.mem_singleton] at hx
          subst hx
          simp
  unfold VF.spec_ClosePeriod
  rw [join_eq, spec_AreDocuments_eq hk (hl.sm (by omega)), bnd_some']
  cases areDoc k l with
  | false => exact ⟨[], false, rfl, by simp⟩
  | true =>
    simp only [Bool.not_true, sel_false, l1In_eq, bnd_some']
    cases inB day 0 999 with
    | false => exact ⟨[], false, rfl, by simp⟩
    | true =>
      simp only [Bool.not_true, sel_false, VF.spec_ClosePeriod.j3, join_eq]
      obtain ⟨k', rfl⟩ : ∃ k', k = k' + 1 + 1 + 1 := ⟨k - 3, by omega⟩
      obtain ⟨v1, e1⟩ := balance_ex hk hl100 (Array.toList #[83, 65, 76, 69, 83]) day
      obtain ⟨v2, e2⟩ := balance_ex hk hl100 (Array.toList #[67, 79, 83, 84]) day
      have w1 : IntKind.wrap .i64 ((0 : Int) + 1) = 1 := by decide
      have w2 : IntKind.wrap .i64 ((1 : Int) + 1) = 2 := by decide
      have i1 : inb [(Array.toList #[83, 65, 76, 69, 83] : Key), Array.toList #[67, 79, 83, 84]] 0 = true := by decide
      have i2 : inb [(Array.toList #[83, 65, 76, 69, 83] : Key), Array.toList #[67, 79, 83, 84]] 1 = true := by decide
      have r1 : rdL [(Array.toList #[83, 65, 76, 69, 83] : Key), Array.toList #[67, 79, 83, 84]] 0 [] = Array.toList #[83, 65, 76, 69, 83] := rfl
      have r2 : rdL [(Array.toList #[83, 65, 76, 69, 83] : Key), Array.toList #[67, 79, 83, 84]] 1 [] = Array.toList #[67, 79, 83, 84] := rfl
      have d0 : decide ((0 : Int) < 2) = true := by decide
      have d1 : decide ((1 : Int) < 2) = true := by decide
      have d2 : decide ((2 : Int) < 2) = false := by decide
      -- the second name, then the end
      have last : ∀ es : List Ent, es.length ≤ 2 → (∀ e ∈ es, e.1.length ≤ 8) → ∀ j, ∃ (r : List Doc) (t : Bool), iter (VF.spec_ClosePeriod.l2 (k' + 1 + 1 + 1) l day (VF.spec_ClosePeriod.j1 (k' + 1 + 1 + 1) l day)) (j + 1) (es, [Array.toList #[83, 65, 76, 69, 83], Array.toList #[67, 79, 83, 84]], 2) = some ((r, t, ()), ()) ∧ (t = true → Few 6 r) := by
        intro es h2 h8 j
        rw [iter_succ]
        simp only [VF.spec_ClosePeriod.l2, d2, sel_false]
        exact hJ1 es h2 h8
      have mid : ∀ es : List Ent, es.length ≤ 1 → (∀ e ∈ es, e.1.length ≤ 8) → ∃ (r : List Doc) (t : Bool), iter (VF.spec_ClosePeriod.l2 (k' + 1 + 1 + 1) l day (VF.spec_ClosePeriod.j1 (k' + 1 + 1 + 1) l day)) (k' + 1 + 1) (es, [Array.toList #[83, 65, 76, 69, 83], Array.toList #[67, 79, 83, 84]], 1) = some ((r, t, ()), ()) ∧ (t = true → Few 6 r) := by
        intro es h1 h8
        rw [iter_succ]
        simp only [VF.spec_ClosePeriod.l2, d1, sel_true, i2, r2, grd_true, e2, bnd_some', w2]
        cases decide (v2 = 0) with
        | true => exact last es (by omega) h8 k'
        | false =>
          simp only [Bool.not_false, sel_true]
          rw [f1 _ (by simp only [List.length_cons, List.length_nil]; omega), grd_true]
          refine last _ (by simp only [List.length_append, List.length_cons, List.length_nil]; omega) (fun x hx => ?_) k'
          rcases List.mem_append.1 hx with hx | hx
          · exact h8 x hx
          · simp only [List.mem_singleton] at hx
            subst hx
            simp
      rw [iter_succ]
      simp only [VF.spec_ClosePeriod.l2, d0, sel_true, i1, r1, grd_true, e1, bnd_some', w1]
      cases decide (v1 = 0) with
      | true => exact mid [] (by simp) (by simp)
      | false =>
        simp only [Bool.not_false, sel_true]
        rw [f1 _ (by simp), grd_true]
        refine mid _ (by simp) (fun x hx => ?_)
        simp only [List.nil_append, List.mem_singleton] at hx
        subst hx
        simp

theorem l38_D (k : Nat) (hk : 1048577 < k) {c : Cur} (hc : CurOk c) : Dr (VF.spec_l38Draw k c) (fun l => Few 6 l) := by
  obtain ⟨b, i, h, ⟨⟩⟩ := c
  unfold VF.spec_l38Draw
  obtain ⟨l, ⟨b', i', h', ⟨⟩⟩, e, ok, hl⟩ := docs_D k hk hc
  rw [e]
  simp only [bnd_some']
  obtain ⟨v, ⟨b', i', h', ⟨⟩⟩, e, ok, _⟩ := once_D k ok 2 (by omega)
  rw [e]
  simp only [bnd_some']
  cases v with
  | false => exact ⟨_, _, rfl, ok, hl.mono (by omega)⟩
  | true =>
    simp only [sel_true]
    obtain ⟨v, ⟨b', i', h', ⟨⟩⟩, e, ok, _⟩ := below_D k ok 30 (by omega)
    rw [e]
    simp only [bnd_some']
    obtain ⟨r, t, e, hr⟩ := close_ex hk hl v
    rw [e]
    simp only [bnd_some']
    cases t with
    | true => exact ⟨_, _, rfl, ok, hr rfl⟩
    | false => exact ⟨_, _, rfl, ok, hl.mono (by omega)⟩

theorem new_ex {k : Nat} (hk : 1048577 < k) {code : List Int} (hc : code.length ≤ 1048576) : ∃ c : Cur, VF.spec_l1New k code = some ((c, ()), ()) ∧ CurOk c := by
  unfold VF.spec_l1New
  rw [join_eq]
  have key : ∀ (post pre : List Int), code = pre ++ post → ∀ (h : Int) (j : Nat), post.length < j → ∃ c : Cur, iter (VF.spec_l1New.l1 code (VF.spec_l1New.j0 code)) j (h, (pre.length : Int)) = some ((c, ()), ()) ∧ CurOk c := by
    intro post
    induction post with
    | nil =>
      intro pre hx h j hj
      obtain ⟨j', rfl⟩ : ∃ j', j = j' + 1 := ⟨j - 1, by omega⟩
      rw [List.append_nil] at hx
      subst hx
      rw [iter_succ]
      simp only [VF.spec_l1New.l1, Int.lt_irrefl, decide_false, sel_false]
      exact ⟨_, rfl, by simp [CurOk, hc]⟩
    | cons x post ih =>
      intro pre hx h j hj
      obtain ⟨j', rfl⟩ : ∃ j', j = j' + 1 := ⟨j - 1, by omega⟩
      rw [iter_succ]
      have hpl : pre.length < 1099511627776 := by have := congrArg List.length hx; simp at this; omega
      have g1 : decide ((pre.length : Int) < (code.length : Int)) = true := by rw [hx]; exact lt_mid _ _ _
      have g2 : inb code (pre.length : Int) = true := by rw [hx]; exact inb_mid _ _ _
      simp only [VF.spec_l1New.l1, g1, sel_true, g2, grd_true, wnext hpl]
      cases decide ((pre.length : Int) < 4000) with
      | false => exact ⟨_, rfl, by simp [CurOk, hc]⟩
      | true =>
        simp only [sel_true]
        have hl : ((pre ++ [x]).length : Int) = ((pre.length + 1 : Nat) : Int) := by simp
        have ih' := fun h' => ih (pre ++ [x]) (by simpa using hx) h' j' (by simp at hj; omega)
        rw [hl] at ih'
        exact ih' _
  have := key code [] rfl (IntKind.wrap .i64 (10101 + (code.length : Int))) k (by omega)
  simpa using this

theorem drawMove_ex {k : Nat} (hk : 1048577 < k) {code : List Int} (hc : code.length ≤ 1048576) : ∃ (l : List Doc) (a b : Int), VF.spec_DrawMovementOf k code = some ((l, a, b, ()), ()) ∧ Few 6 l := by
  unfold VF.spec_DrawMovementOf
  obtain ⟨⟨b0, i0, h0, ⟨⟩⟩, e, ok⟩ := new_ex hk hc
  rw [e]
  simp only [bnd_some']
  obtain ⟨l, ⟨b', i', h', ⟨⟩⟩, e, ok, hl⟩ := l38_D k hk ok
  rw [e]
  simp only [bnd_some']
  obtain ⟨v1, ⟨b', i', h', ⟨⟩⟩, e, ok, _⟩ := day_D k ok
  rw [e]
  simp only [bnd_some']
  obtain ⟨v2, ⟨b', i', h', ⟨⟩⟩, e, ok, _⟩ := day_D k ok
  rw [e]
  exact ⟨l, v1, v2, rfl, hl⟩
end VM
