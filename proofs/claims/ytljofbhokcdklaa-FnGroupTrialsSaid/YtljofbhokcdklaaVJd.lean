/- Draws of groups of firms. -/
import Derived.Test.YtljofbhokcdklaaVHg
import Derived.Test.YtljofbhokcdklaaJVa
set_option linter.unusedVariables false
set_option linter.unusedSimpArgs false
namespace VM
open Go

theorem move_Sm {k : Nat} {l : List Doc} (hl : Few 5 l) {a b : Int} : SmE (moveOf k l a b) :=
  ⟨by have := moveOf_len (k := k) (l := l) (a := a) (b := b); omega, move_SmK (hl.sm (by omega))⟩

def Firms3 (n : Nat) (f : List (List Ent)) : Prop := f.length ≤ n ∧ ∀ x ∈ f, SmE x

theorem firms_D (k : Nat) (hk : 1048577 < k) {c : Cur} (hc : CurOk c) : Dr (VF.spec_l40Firms k c) (fun f => Firms3 3 f) := by
  obtain ⟨b, i, h, ⟨⟩⟩ := c
  have hJ0 : ∀ (b : List Int) (i h : Int) (f : List (List Ent)), CurOk (b, i, h, ()) → Firms3 3 f → Dr (VF.spec_l40Firms.j0 k ((b, i, h), f)) (fun f => Firms3 3 f) := by
    intro b i h f hc hf
    unfold VF.spec_l40Firms.j0
    obtain ⟨v, ⟨b', i', h', ⟨⟩⟩, e, ok, q⟩ := once_D k hc 16 (by omega)
    rw [e]
    simp only [bnd_some']
    cases v with
    | false => exact ⟨_, _, rfl, ok, hf⟩
    | true =>
      simp only [sel_true]
      by_cases h0 : 0 < f.length
      · have g1 : decide ((0 : Int) < (f.length : Int)) = true := by simp only [decide_eq_true_eq]; omega
        simp only [g1, sel_true]
        obtain ⟨v, ⟨b', i', h', ⟨⟩⟩, e, ok, q⟩ := entries_D k (by omega) ok
        rw [e]
        simp only [bnd_some']
        rw [inb_of (l := f) (v := 0) (by omega) (by omega), grd_true]
        refine ⟨_, _, rfl, ok, by simpa [wrL] using hf.1, fun x hx => ?_⟩
        simp only [wrL, Int.toNat_zero] at hx
        rcases List.mem_or_eq_of_mem_set hx with h | h
        · exact hf.2 x h
        · rw [h]; exact q.sm
      · have g1 : decide ((0 : Int) < (f.length : Int)) = false := by simp only [decide_eq_false_iff_not]; omega
        simp only [g1, sel_false]
        exact ⟨_, _, rfl, ok, hf⟩
  unfold VF.spec_l40Firms
  rw [join_eq]
  obtain ⟨n, ⟨b', i', h', ⟨⟩⟩, e, ok, q⟩ := below_D k hc 4 (by omega)
  rw [e]
  simp only [bnd_some']
  have hq := q.2 (by omega)
  have key : ∀ (m : Nat) (b : List Int) (i h : Int) (l : List (List Ent)) (j : Nat), m < j → m ≤ 3 → CurOk (b, i, h, ()) → Firms3 (3 - m) l →
      Dr (iter (VF.spec_l40Firms.l1 k (VF.spec_l40Firms.j0 k)) j ((b, i, h), l, (m : Int))) (fun l => Firms3 3 l) := by
    intro m
    induction m with
    | zero =>
      intro b i h l j hj hm hc hl
      obtain ⟨j', rfl⟩ : ∃ j', j = j' + 1 := ⟨j - 1, by omega⟩
      rw [iter_succ]
      simp only [VF.spec_l40Firms.l1, Int.natCast_zero, Int.lt_irrefl, decide_false, sel_false]
      exact hJ0 b i h l hc hl
    | succ m ih =>
      intro b i h l j hj hm hc hl
      obtain ⟨j', rfl⟩ : ∃ j', j = j' + 1 := ⟨j - 1, by omega⟩
      rw [iter_succ]
      have g1 : decide ((0 : Int) < ((m + 1 : Nat) : Int)) = true := by simp only [decide_eq_true_eq]; omega
      have g2 : IntKind.wrap .i64 (((m + 1 : Nat) : Int) - 1) = (m : Int) := by rw [w64 (by omega) (by omega)]; omega
      simp only [VF.spec_l40Firms.l1, g1, sel_true, g2]
      obtain ⟨v, ⟨b', i', h', ⟨⟩⟩, e, ok, q⟩ := docs_D k hk hc
      rw [e]
      simp only [bnd_some']
      have h1 := hl.1
      rw [spec_Trial_eq hk (q.sm (by omega)), bnd_some', fits_of (by omega) (by simp only [List.length_cons, List.length_nil]; omega), grd_true]
      refine ih b' i' h' _ j' (by omega) (by omega) ok ⟨by simp only [List.length_append, List.length_cons, List.length_nil]; omega, fun x hx => ?_⟩
      rcases List.mem_append.1 hx with hx | hx
      · exact hl.2 x hx
      · simp only [List.mem_singleton] at hx
        subst hx
        exact move_Sm q
  have := key n.toNat b' i' h' [] k (by have := q.1; omega) (by have := q.1; omega) ok ⟨by simp, by simp⟩
  rw [show ((n.toNat : Nat) : Int) = n by have := q.1; omega] at this
  exact this

theorem dealings_D (k : Nat) (hk : 100 < k) {c : Cur} (hc : CurOk c) (n : Int) (hn : 0 ≤ n ∧ n ≤ 1000) : Dr (VF.spec_l40Dealings k c n) (fun l => l.length ≤ 5) := by
  obtain ⟨b, i, h, ⟨⟩⟩ := c
  have f1 : ∀ m, m ≤ 1048576 + 2 → fits m 32 = true := fun m hm => fits_of (by omega) (by omega)
  have hJ0 : ∀ (b : List Int) (i h : Int) (l : List D4), CurOk (b, i, h, ()) → l.length ≤ 4 → Dr (VF.spec_l40Dealings.j0 k ((b, i, h), l)) (fun l => l.length ≤ 5) := by
    intro b i h l hc hl
    unfold VF.spec_l40Dealings.j0
    obtain ⟨v, ⟨b', i', h', ⟨⟩⟩, e, ok, q⟩ := once_D k hc 14 (by omega)
    rw [e]
    simp only [bnd_some']
    cases v with
    | false => exact ⟨_, _, rfl, ok, by omega⟩
    | true =>
      simp only [sel_true]
      obtain ⟨v1, ⟨b', i', h', ⟨⟩⟩, e, ok, q1⟩ := below_D k ok 4 (by omega)
      rw [e]
      simp only [bnd_some']
      obtain ⟨v2, ⟨b', i', h', ⟨⟩⟩, e, ok, q2⟩ := below_D k ok 4 (by omega)
      rw [e]
      simp only [bnd_some']
      obtain ⟨v3, ⟨b', i', h', ⟨⟩⟩, e, ok, q3⟩ := odd_D k ok
      rw [e]
      simp only [bnd_some']
      rw [f1 _ (by simp only [List.length_cons, List.length_nil]; omega), grd_true]
      exact ⟨_, _, rfl, ok, by simp only [List.length_append, List.length_cons, List.length_nil]; omega⟩
  unfold VF.spec_l40Dealings
  rw [join_eq]
  obtain ⟨m0, ⟨b', i', h', ⟨⟩⟩, e, ok, q⟩ := below_D k hc 5 (by omega)
  rw [e]
  simp only [bnd_some']
  have hq := q.2 (by omega)
  have key : ∀ (m : Nat) (b : List Int) (i h : Int) (l : List D4) (j : Nat), m < j → CurOk (b, i, h, ()) → l.length + m ≤ 4 →
      Dr (iter (VF.spec_l40Dealings.l1 k n (VF.spec_l40Dealings.j0 k)) j ((b, i, h), l, (m : Int))) (fun l => l.length ≤ 5) := by
    intro m
    induction m with
    | zero =>
      intro b i h l j hj hc hl
      obtain ⟨j', rfl⟩ : ∃ j', j = j' + 1 := ⟨j - 1, by omega⟩
      rw [iter_succ]
      simp only [VF.spec_l40Dealings.l1, Int.natCast_zero, Int.lt_irrefl, decide_false, sel_false]
      exact hJ0 b i h l hc hl
    | succ m ih =>
      intro b i h l j hj hc hl
      obtain ⟨j', rfl⟩ : ∃ j', j = j' + 1 := ⟨j - 1, by omega⟩
      rw [iter_succ]
      have g1 : decide ((0 : Int) < ((m + 1 : Nat) : Int)) = true := by simp only [decide_eq_true_eq]; omega
      have g2 : IntKind.wrap .i64 (((m + 1 : Nat) : Int) - 1) = (m : Int) := by rw [w64 (by omega) (by omega)]; omega
      simp only [VF.spec_l40Dealings.l1, g1, sel_true, g2]
      by_cases h1 : 1 < n
      · simp only [h1, decide_true, sel_true]
        obtain ⟨v1, ⟨b', i', h', ⟨⟩⟩, e, ok, q1⟩ := below_D k hc n (by omega)
        rw [e]
        simp only [bnd_some']
        obtain ⟨v2, ⟨b', i', h', ⟨⟩⟩, e, ok, q2⟩ := below_D k ok 90 (by omega)
        rw [e]
        simp only [bnd_some']
        rw [w64 (x := n - 1) (by omega) (by omega)]
        obtain ⟨v3, ⟨b', i', h', ⟨⟩⟩, e, ok, q3⟩ := below_D k ok (n - 1) (by omega)
        rw [e]
        simp only [bnd_some']
        have hn0 : (!decide (n = 0)) = true := by simp; omega
        rw [hn0, grd_true]
        have hv2 := q2.2 (by omega)
        rw [w64 (x := v2 + 1) (by omega) (by omega)]
        obtain ⟨v4, ⟨b', i', h', ⟨⟩⟩, e, ok, q4⟩ := below_D k ok (v2 + 1) (by omega)
        rw [e]
        simp only [bnd_some']
        rw [f1 _ (by simp only [List.length_cons, List.length_nil]; omega), grd_true]
        exact ih b' i' h' _ j' (by omega) ok (by simp only [List.length_append, List.length_cons, List.length_nil]; omega)
      · simp only [h1, decide_false, sel_false]
        exact hJ0 b i h l hc (by omega)
  have := key m0.toNat b' i' h' [] k (by have := q.1; omega) ok (by simp; have := q.1; omega)
  rw [show ((m0.toNat : Nat) : Int) = m0 by have := q.1; omega] at this
  exact this

theorem drawGroup_ex {k : Nat} (hk : 1048577 < k) {code : List Int} (hc : code.length ≤ 1048576) : ∃ (f : List (List Ent)) (l : List D4), VF.spec_DrawGroupTrial k code = some ((f, l, ()), ()) ∧ Firms3 3 f ∧ l.length ≤ 5 := by
  unfold VF.spec_DrawGroupTrial
  obtain ⟨⟨b, i, h, ⟨⟩⟩, e, ok⟩ := new_ex hk hc
  rw [e]
  simp only [bnd_some']
  obtain ⟨f, ⟨b, i, h, ⟨⟩⟩, e, ok, hf⟩ := firms_D k hk ok
  rw [e]
  simp only [bnd_some']
  have := hf.1
  obtain ⟨l, ⟨b, i, h, ⟨⟩⟩, e, ok, hl⟩ := dealings_D k (by omega) ok (f.length : Int) (by omega)
  rw [e]
  exact ⟨f, l, rfl, hf, hl⟩
end VM
