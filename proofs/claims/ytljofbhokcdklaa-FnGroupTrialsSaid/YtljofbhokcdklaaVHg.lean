/- What moves from a day on and what was before are the balances. -/
import Derived.Test.YtljofbhokcdklaaVHf
import Derived.Test.YtljofbhokcdklaaVQf
import Derived.Test.YtljofbhokcdklaaVG3
set_option linter.unusedVariables false
set_option linter.unusedSimpArgs false
namespace VM
open Go

theorem same_eq {k : Nat} {a b : List Ent} (hk : a.length < k) (hl : a.length < 1099511627776) : VF.laws_sameEntries k a b = some ((decide (a = b), ()), ()) := by
  unfold VF.laws_sameEntries
  by_cases h : a.length = b.length
  · have h' : decide ((a.length : Int) = (b.length : Int)) = true := by simp [h]
    simp only [h', Bool.not_true, sel_false, join_eq]
    refine iter_eq a b h (fun ih pre x post pre' y post' hx hy hp => ?_) (fun ih => by simp [VF.laws_sameEntries.l1, VF.laws_sameEntries.j0]) hk
    have hpl : pre.length < 1099511627776 := by rw [hx] at hl; simp at hl; omega
    have i1 : inb b (pre.length : Int) = true := by rw [hy, ← hp]; exact inb_mid _ _ _
    have i2 : rdL b (pre.length : Int) ([], 0, ()) = y := by rw [hy, ← hp]; exact rdL_mid _ _ _ _
    rw [hx]
    obtain ⟨x1, x2, ⟨⟩⟩ := x
    obtain ⟨y1, y2, ⟨⟩⟩ := y
    simp only [VF.laws_sameEntries.l1, lt_mid, sel_true, inb_mid, grd_true, i1, i2, rdL_mid, wnext hpl]
    by_cases h1 : x1 = y1 <;> by_cases h2 : x2 = y2 <;> simp [h1, h2]
  · have h' : decide ((a.length : Int) = (b.length : Int)) = false := by simp; omega
    have h2 : a ≠ b := fun e => h (by rw [e])
    simp [h', h2]

/-! ### balances of a day -/
theorem areDoc_day {k : Nat} {l : List Doc} (h : areDoc k l = true) : ∀ d ∈ l, 0 ≤ d.2.1 ∧ d.2.1 ≤ 999 := by
  simp only [areDoc, Bool.and_eq_true, decide_eq_true_eq] at h
  intro d hd
  obtain ⟨q, hq⟩ := allP_mem h.1 d hd
  simp only [okDoc, inB, Bool.and_eq_true, decide_eq_true_eq] at hq
  omega

theorem spec_Trial_eq {k : Nat} (hk : 1048577 < k) {l : List Doc} (hs : SmD l) {b : Int} : VF.spec_TrialBalance k l b = some ((moveOf k l 0 b, ()), ()) := by
  unfold VF.spec_TrialBalance moveOf
  rw [join_eq]
  cases ha : areDoc k l with
  | false =>
    simp only [Bool.false_eq_true, if_false]
    have hd := spec_AreDocuments_eq hk hs
    obtain ⟨k', rfl⟩ : ∃ k', k = k' + 1 := ⟨k - 1, by omega⟩
    rw [iter_succ]
    simp only [VF.spec_TrialBalance.l3]
    rw [hd, bnd_some', ha]
    cases decide (0 < (l.length : Int)) <;> rfl
  | true =>
    have h120 := areDoc_len ha
    have hE := areDoc_E ha
    have hday := areDoc_day ha
    simp only [if_true]
    have hd := spec_AreDocuments_eq hk hs
    have h1 := iter_fold (s := VF.spec_TrialBalance.l3 k l b VF.spec_TrialBalance.j0) (fun (r : List Ent) i => (r, (i : Int))) l (fun r x => (inDays 0 b x).foldl (fun r e => addE r e.1 e.2.1) r) VF.spec_TrialBalance.j0
      (fun pre r => r.length ≤ 12 * pre.length)
      (fun r pre x post hx hi => by
        have := inDays_len (a := 0) (b := b) (hE x (by rw [hx]; simp))
        have := fold_len (inDays 0 b x) r
        simp only [List.length_append, List.length_cons, List.length_nil]
        omega)
      (fun ih r pre x post hx hi => by
        have hpl : pre.length ≤ 120 := by rw [hx] at h120; simp at h120; omega
        have hx12 := areE_len (hE x (by rw [hx]; simp))
        have hx0 := (hday x (by rw [hx]; simp)).1
        have g1 : decide ((pre.length : Int) < (l.length : Int)) = true := by rw [hx]; exact lt_mid _ _ _
        have g2 : inb l (pre.length : Int) = true := by rw [hx]; exact inb_mid _ _ _
        have g3 : rdL l (pre.length : Int) (0, 0, [], ()) = x := by rw [hx]; exact rdL_mid _ _ _ _
        simp only [VF.spec_TrialBalance.l3, g1, sel_true, hd, bnd_some', ha, join_eq]
        by_cases hin : x.2.1 ≤ b
        · have h2 := iter_fold (s := VF.spec_TrialBalance.l2 k l b (VF.spec_TrialBalance.j1 ih)) (fun (r : List Ent) i => (r, (pre.length : Int), (i : Int))) x.2.2.1 (fun r e => addE r e.1 e.2.1) (fun r => VF.spec_TrialBalance.j1 ih (r, (pre.length : Int)))
            (fun q r => r.length ≤ 2000 + q.length)
            (fun r q y post' hy hq => by
              have := addE_length r y.1 y.2.1
              simp only [List.length_append, List.length_cons, List.length_nil]
              omega)
            (fun ih2 r q y post' hy hq => by
              have hql : q.length ≤ 12 := by rw [hy] at hx12; simp at hx12; omega
              have k1 : decide ((q.length : Int) < (x.2.2.1.length : Int)) = true := by rw [hy]; exact lt_mid _ _ _
              have k2 : inb x.2.2.1 (q.length : Int) = true := by rw [hy]; exact inb_mid _ _ _
              have k3 : rdL x.2.2.1 (q.length : Int) ([], 0, ()) = y := by rw [hy]; exact rdL_mid _ _ _ _
              simp only [VF.spec_TrialBalance.l2, join_eq, g2, g3, k1, k2, k3, sel_true, grd_true, hin, decide_true, l35Add_eq (k := k) (l := r) (a := y.1) (n := y.2.1) (by omega) (by omega), bnd_some', wnext (show q.length < 1099511627776 by omega)])
            (fun ih2 r hq => by
              simp only [VF.spec_TrialBalance.l2, join_eq, g2, g3, grd_true, Int.lt_irrefl, decide_false, sel_false])
            (k := k) (by omega) (a := r) (by simp; omega)
          rw [show ((0 : Nat) : Int) = 0 from rfl] at h2
          rw [h2]
          simp only [VF.spec_TrialBalance.j1, wnext (show pre.length < 1099511627776 by omega), inDays, hin, hx0, and_self, if_true]
        · obtain ⟨k', rfl⟩ : ∃ k', k = k' + 1 := ⟨k - 1, by omega⟩
          rw [iter_succ]
          simp only [VF.spec_TrialBalance.l2, join_eq, g2, g3, grd_true, VF.spec_TrialBalance.j1, wnext (show pre.length < 1099511627776 by omega), inDays, hin, and_false, if_false, decide_false, sel_false, List.foldl_nil]
          cases decide ((0 : Int) < (x.2.2.1.length : Int)) <;> rfl)
      (fun ih r hi => by simp [VF.spec_TrialBalance.l3])
      (k := k) (by omega) (a := []) (by simp)
    rw [show ((0 : Nat) : Int) = 0 from rfl] at h1
    rw [h1]
    have hf : ∀ (l : List Doc) (r : List Ent), l.foldl (fun r x => (inDays 0 b x).foldl (fun r e => addE r e.1 e.2.1) r) r = (l.flatMap (inDays 0 b)).foldl (fun r e => addE r e.1 e.2.1) r := by
      intro l
      induction l with
      | nil => intro r; rfl
      | cons d l ih => intro r; rw [List.foldl_cons, ih, List.flatMap_cons, List.foldl_append]
    rw [hf]
    rfl

/-! ### the law -/
theorem sumZ_days {c : Key} {f u : Int} (h1 : 0 ≤ f) (h2 : f ≤ u + 1) : ∀ {l : List Doc}, (∀ d ∈ l, 0 ≤ d.2.1) →
    sumZ (l.flatMap (inDays 0 (f - 1))) c + sumZ (l.flatMap (inDays f u)) c = sumZ (l.flatMap (inDays 0 u)) c
  | [], _ => rfl
  | d :: l, h => by
    have ih := sumZ_days (c := c) h1 h2 (l := l) fun x hx => h x (by simp [hx])
    have hd := h d (by simp)
    simp only [List.flatMap_cons, sumZ_append]
    have : sumZ (inDays 0 (f - 1) d) c + sumZ (inDays f u d) c = sumZ (inDays 0 u d) c := by
      unfold inDays
      by_cases hlo : d.2.1 ≤ f - 1
      · rw [if_pos ⟨hd, hlo⟩, if_neg (by omega), if_pos (by omega)]
        simp [sumZ]
      · rw [if_neg (by omega)]
        by_cases hup : d.2.1 ≤ u
        · rw [if_pos (by omega), if_pos (by omega)]
          simp [sumZ]
        · rw [if_neg (by omega), if_neg (by omega)]
          simp [sumZ]
    omega

theorem days_mem {a b : Int} {l : List Doc} {e : Ent} (h : e ∈ l.flatMap (inDays a b)) : ∃ d ∈ l, e ∈ d.2.2.1 := by
  obtain ⟨d, hd, he⟩ := List.mem_flatMap.1 h
  refine ⟨d, hd, ?_⟩
  unfold inDays at he
  split at he
  · exact he
  · simp at he

theorem areE_okN {k : Nat} {l : List Ent} (h : areE k l = true) : ∀ e ∈ l, okN k e = true := by
  simp only [areE, Bool.and_eq_true, List.all_eq_true] at h
  exact h.1

/-- What moves is fit to be added. -/
theorem move_okW {k : Nat} {l : List Doc} (ha : areDoc k l = true) {a b : Int} (hn : l.length ≤ 80) : (moveOf k l a b).all (okW k) = true := by
  unfold moveOf
  rw [if_pos ha, List.all_eq_true]
  intro e he
  have hE := areDoc_E ha
  obtain ⟨hlen, hI⟩ := days_ok (a := a) (b := b) hE
  have hok : ∀ x ∈ l.flatMap (inDays a b), okN k x = true := fun x hx => by
    obtain ⟨d, hd, hxd⟩ := days_mem hx
    exact areE_okN (hE d hd) x hxd
  obtain ⟨s1, s2, s3, s4⟩ := adds_spec _ hI
  have hc : isC k e.1 = true := by
    rcases fold_keys _ [] e he with ⟨x, hx, _⟩ | ⟨x, hx, hxe⟩
    · simp at hx
    · have := hok x hx
      simp only [okN, Bool.and_eq_true] at this
      rw [← hxe]
      exact this.1.1
  have hv : e.2.1 = IntKind.wrap .i64 (sumZ (l.flatMap (inDays a b)) e.1) := by rw [← getE_of_mem s1 he, s4, sumW_Z]
  have hb := sumZ_bound (n := 1000000000) (l := l.flatMap (inDays a b)) (fun x hx => by
    have := hok x hx
    simp only [okN, inB, Bool.and_eq_true, decide_eq_true_eq] at this
    omega) (by omega) e.1
  rw [w64 (by omega) (by omega)] at hv
  simp only [okW, hc, inB, hv, Bool.true_and, Bool.and_eq_true, decide_eq_true_eq]
  omega

theorem move_SmK {k : Nat} {l : List Doc} (hs : SmD l) {a b : Int} : SmK (moveOf k l a b) := by
  unfold moveOf
  split
  · refine adds_SmK fun e he => ?_
    obtain ⟨d, hd, hx⟩ := days_mem he
    exact (hs.2 d hd).2 e hx
  · simp [SmK]

theorem moves_eq {k : Nat} {l : List Doc} (hn : l.length ≤ 80) {f u : Int} (h1 : 0 ≤ f) (h2 : f ≤ u + 1) : addT k (moveOf k l 0 (f - 1)) (moveOf k l f u) = (moveOf k l 0 u, true) := by
  cases ha : areDoc k l with
  | false => simp [addT, moveOf, ha, adds]
  | true =>
    have w1 := move_okW ha (a := 0) (b := f - 1) hn
    have w2 := move_okW ha (a := f) (b := u) hn
    have hE := areDoc_E ha
    unfold addT
    rw [if_pos (by rw [List.all_append, w1, w2]; rfl)]
    simp only [moveOf, ha, if_true]
    have d1 := (days_ok (a := 0) (b := f - 1) hE).2
    have d2 := (days_ok (a := f) (b := u) hE).2
    have d3 := (days_ok (a := 0) (b := u) hE).2
    rw [adds_adds d1 d2]
    congr 1
    refine adds_ext (d1.append d2) d3 fun c => ?_
    rw [sumZ_append, sumZ_days h1 h2 fun d hd => (areDoc_day ha d hd).1]

theorem move_low {k : Nat} {l : List Doc} {f u : Int} (h : u < f) : moveOf k l f u = [] := by
  have : l.flatMap (inDays f u) = [] := by
    rw [List.flatMap_eq_nil_iff]
    intro d _
    unfold inDays
    rw [if_neg (by omega)]
  unfold moveOf
  rw [this]
  split <;> rfl

theorem moves_true (code : List Int) : VF.laws_FnMovements 1048600 code = some ((true, ()), ()) := by
  unfold VF.laws_FnMovements VF.laws_big
  simp only [bnd_some']
  by_cases hbig : (1048576 : Int) < (code.length : Int)
  · simp [hbig]
  · simp only [hbig, decide_false, sel_false]
    obtain ⟨l, f, u, e, hl⟩ := drawMove_ex (k := 1048600) (code := code) (by omega) (by omega)
    have hl6 := hl.1
    have hs := hl.sm (by omega)
    have rm : ∀ a b, VF.impl_MovementOf 1048600 l a b = some ((moveOf 1048600 l a b, ()), ()) := fun a b => by unfold VF.impl_MovementOf; rw [impl_move_eq (by omega) hs, bnd_some']
    rw [e]
    simp only [bnd_some', join_eq]
    have hodd : (u < f ∨ f < 1 ∨ 999 < f ∨ 999 < u) → VF.laws_FnMovements.j1 1048600 (VF.laws_FnMovements.j0 1048600) (l, f, u, true) = some ((true, ()), ()) := by
      intro _
      unfold VF.laws_FnMovements.j1
      simp only [sel_true, rm, bnd_some']
      by_cases hfu : f ≤ u
      · simp [hfu]
      · simp [hfu, move_low (k := 1048600) (l := l) (show u < f by omega)]
    by_cases h1 : f < 1
    · simp only [h1, decide_true, sel_true, hodd (.inr (.inl h1))]
    · by_cases h2 : 999 < f
      · simp only [h1, h2, decide_true, decide_false, sel_true, sel_false, hodd (.inr (.inr (.inl h2)))]
      · by_cases h3 : u < f
        · simp only [h1, h2, h3, decide_true, decide_false, sel_true, sel_false, hodd (.inl h3)]
        · by_cases h4 : 999 < u
          · simp only [h1, h2, h3, h4, decide_true, decide_false, sel_true, sel_false, hodd (.inr (.inr (.inr h4)))]
          · simp only [h1, h2, h3, h4, decide_false, sel_false]
            unfold VF.laws_FnMovements.j1 VF.laws_FnMovements.j0
            have hw : IntKind.wrap .i64 (f - 1) = f - 1 := w64 (by omega) (by omega)
            have m1 : ∀ a b, (moveOf 1048600 l a b).length ≤ 72 := fun a b => by
              unfold moveOf
              split
              · next ha =>
                have := (days_ok (a := a) (b := b) (areDoc_E ha)).1
                have := adds_length (l.flatMap (inDays a b))
                omega
              · simp
            have hm1 := m1 0 (f - 1)
            have hm2 := m1 f u
            have hm3 := m1 0 u
            have ra := impl_Add_eq (k := 1048600) (by omega) (a := moveOf 1048600 l 0 (f - 1)) (b := moveOf 1048600 l f u) (by omega) (move_SmK hs) (move_SmK hs)
            rw [moves_eq (by omega) (by omega) (by omega)] at ra
            have rs := same_eq (k := 1048600) (a := moveOf 1048600 l 0 u) (b := moveOf 1048600 l 0 u) (by omega) (by omega)
            simp only [sel_false, hw, rm, bnd_some', ra, sel_true, spec_Trial_eq (k := 1048600) (by omega) hs, rs, decide_true]
end VM
