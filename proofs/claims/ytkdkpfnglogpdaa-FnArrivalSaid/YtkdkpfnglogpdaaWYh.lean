/- FnArrival is true. -/
import Derived.Test.YtkdkpfnglogpdaaWYg
import Derived.Test.YtkdkpfnglogpdaaWUa
set_option linter.unusedVariables false
set_option linter.unusedSimpArgs false
namespace VM
open Go

theorem sameInts_refl {k : Nat} {a : List Int} (hk : a.length < k) (hl : a.length ≤ 1048576) : VF.laws_sameInts k a a = some ((true, ()), ()) := by
  unfold VF.laws_sameInts
  simp only [decide_true, Bool.not_true, sel_false, join_eq]
  refine iter_go (fun i => (i : Int)) a.length _ (fun ih i hi => ?_) (fun ih => ?_) hk
  · unfold VF.laws_sameInts.l1
    simp only [lt_nat hi, inb_nat hi, decide_true, Bool.not_true, sel_true, sel_false, grd_true, w_nat hi (by omega)]
  · unfold VF.laws_sameInts.l1
    simp only [Int.lt_irrefl, decide_false, sel_false]
    rfl
theorem sameEvents_refl {k : Nat} {a : List TEv} (hk : a.length < k) (hl : a.length ≤ 1048576) : VF.laws_sameEvents k a a = some ((true, ()), ()) := by
  unfold VF.laws_sameEvents
  simp only [decide_true, Bool.not_true, sel_false, join_eq]
  refine iter_go (fun i => (i : Int)) a.length _ (fun ih i hi => ?_) (fun ih => ?_) hk
  · unfold VF.laws_sameEvents.l1
    simp only [lt_nat hi, inb_nat hi, decide_true, Bool.and_self, Bool.not_true, sel_true, sel_false, grd_true, w_nat hi (by omega)]
  · unfold VF.laws_sameEvents.l1
    simp only [Int.lt_irrefl, decide_false, sel_false]
    rfl

theorem sortV_mem {k : Nat} {l m : List TEv} (hl : l.length ≤ 100) (hm : m.length ≤ 100) (h : ∀ e, e ∈ m ↔ e ∈ l) : sortV k m = sortV k l := by
  unfold sortV
  rw [if_pos hl, if_pos hm]
  exact sortE_perm fun e => by simp only [List.mem_filter, h]
theorem booksV_mem {k : Nat} {l m : List TEv} (hl : l.length ≤ 100) (hm : m.length ≤ 100) (h : ∀ e, e ∈ m ↔ e ∈ l) : booksV k m = booksV k l := by
  unfold booksV
  rw [sortV_mem hl hm h]

theorem turned_ex {l : List TEv} (hl : l.length ≤ 40) (J : List TEv × List TEv → Option ((Bool × Unit) × Unit)) : ∀ (n : Nat) (m : List TEv), n ≤ l.length → (∀ e ∈ m, e ∈ l) → (∀ j, n ≤ j → j < l.length → rdL l (j : Int) E0 ∈ m) → m.length + 2 * n ≤ 80 → ∀ q, n < q →
    ∃ m', (∀ e, e ∈ m' ↔ e ∈ l) ∧ m'.length ≤ 80 ∧ iter (VF.laws_FnArrival.l1 J) q (l, m, (n : Int) - 1) = J (l, m') := by
  intro n
  induction n with
  | zero =>
    intro m hn h1 h2 h3 q hq
    obtain ⟨q, rfl⟩ : ∃ p, q = p + 1 := ⟨q - 1, by omega⟩
    refine ⟨m, fun e => ⟨h1 e, fun he => ?_⟩, by omega, ?_⟩
    · obtain ⟨j, hj, rfl⟩ := List.getElem_of_mem he
      have := h2 j (by omega) hj
      simp only [rdL, Int.toNat_natCast] at this
      rw [List.getD_eq_getElem?_getD, List.getElem?_eq_getElem hj] at this
      exact this
    · rw [iter_succ]
      unfold VF.laws_FnArrival.l1
      simp
  | succ n ih =>
    intro m hn h1 h2 h3 q hq
    obtain ⟨q, rfl⟩ : ∃ p, q = p + 1 := ⟨q - 1, by omega⟩
    have hi : ((n + 1 : Nat) : Int) - 1 = (n : Int) := by omega
    rw [hi, iter_succ]
    have hIH := fun m a b c d => ih m a b c d q (by omega)
    generalize iter (VF.laws_FnArrival.l1 J) q = I at *
    have mem1 : rdL l (n : Int) E0 ∈ l := rdL_mem (by omega) _
    unfold VF.laws_FnArrival.l1
    have c1 : decide ((0 : Int) ≤ (n : Int)) = true := by simp
    have hw : IntKind.wrap .i64 ((n : Int) - 1) = (n : Int) - 1 := w64 (by omega) (by omega)
    have hw2 : IntKind.wrap .i64 (IntKind.wrap .i64 ((l.length : Int) - 1) - (n : Int)) = ((l.length - 1 - n : Nat) : Int) := by rw [w64 (x := (l.length : Int) - 1) (by omega) (by omega), w64 (by omega) (by omega)]; omega
    simp only [c1, sel_true, etaE, hw, hw2]
    rw [inb_nat (by omega), inb_nat (i := l.length - 1 - n) (by omega), fits_of (by decide) (by omega), fits_of (by decide) (by simp; omega)]
    simp only [grd_true, sel_if]
    have mem2 : rdL l ((l.length - 1 - n : Nat) : Int) E0 ∈ l := rdL_mem (by omega) _
    split
    · exact hIH _ (by omega) (by
        intro e he
        simp only [List.mem_append, List.mem_singleton] at he
        rcases he with (he | rfl) | rfl
        · exact h1 e he
        · exact mem1
        · exact mem2) (by
        intro j hj hj2
        by_cases hjn : j = n
        · subst hjn; simp
        · have := h2 j (by omega) hj2; simp [this]) (by simp; omega)
    · exact hIH _ (by omega) (by
        intro e he
        simp only [List.mem_append, List.mem_singleton] at he
        rcases he with he | rfl
        · exact h1 e he
        · exact mem1) (by
        intro j hj hj2
        by_cases hjn : j = n
        · subst hjn; simp
        · have := h2 j (by omega) hj2; simp [this]) (by simp; omega)

theorem drawBooks_ex {k : Nat} (hk : 1048577 < k) {code : List Int} (hc : code.length ≤ 1048576) : ∃ (l : List TEv), VF.spec_DrawBooksOf k code = some ((l, ()), ()) ∧ Evs 27 l := by
  unfold VF.spec_DrawBooksOf
  obtain ⟨⟨b, i, h, ⟨⟩⟩, e, ok⟩ := new_ex0 hk hc
  rw [e]
  simp only [bnd_some']
  obtain ⟨l, ⟨b, i, h, ⟨⟩⟩, e, ok, hl⟩ := levents_D k (by omega) ok
  rw [e]
  exact ⟨_, rfl, hl⟩

theorem arrival_true (code : List Int) : VF.laws_FnArrival 1048600 code = some ((true, ()), ()) := by
  unfold VF.laws_FnArrival VF.laws_big
  simp only [bnd_some']
  by_cases hbig : (1048576 : Int) < (code.length : Int)
  · simp [hbig]
  · simp only [hbig, decide_false, sel_false]
    obtain ⟨l, e, hl⟩ := drawBooks_ex (k := 1048600) (code := code) (by omega) (by omega)
    rw [e]
    simp only [bnd_some', join_eq]
    have hll := hl.1
    rw [w64 (by omega) (by omega)]
    obtain ⟨m, m1, m2, m3⟩ := turned_ex (l := l) (by omega) (VF.laws_FnArrival.j0 1048600) l.length [] (Nat.le_refl _) (by simp) (fun j h h' => by omega) (by simp; omega) 1048600 (by omega)
    rw [m3]
    have hsl := hl.sm
    have hsm : SmV m := fun x hx => hsl x ((m1 x).1 hx)
    unfold VF.laws_FnArrival.j0
    simp only
    rw [impl_Books_eq (by omega) (by omega) hsl, impl_Books_eq (by omega) (by omega) hsm, impl_Sort_eq (by omega) (by omega) hsl, impl_Sort_eq (by omega) (by omega) hsm,
      booksV_mem (by omega) (by omega) m1, sortV_mem (by omega) (by omega) m1]
    obtain ⟨hB, hR⟩ := booksV_Sm (k := 1048600) hsl
    have hA := booksV_agr 1048600 l
    have hZ := sortV_len 1048600 l
    generalize booksV 1048600 l = V at *
    generalize sortV 1048600 l = Z at *
    obtain ⟨⟨S, w, D, ⟨⟩⟩, R⟩ := V
    simp only at hB hR hA
    have r1 := impl_same_refl (k := 1048600) (by omega) hB
    have r2 := spec_same_refl (k := 1048600) (by omega) hB
    have r3 := sameInts_refl (k := 1048600) (a := R) (by omega) (by omega)
    have r4 := sameEvents_refl (k := 1048600) (a := Z) (by omega) (by omega)
    have r5 := impl_agree (k := 1048600) (by omega) hB hA
    have r6 := spec_agree (k := 1048600) (by omega) hB hA
    simp only [bnd_some', r1, r2, r3, r4, r5, r6, sel_true]
end VM
