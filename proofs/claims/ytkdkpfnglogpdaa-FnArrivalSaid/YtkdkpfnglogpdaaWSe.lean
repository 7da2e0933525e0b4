/- The stable sort. -/
import Derived.Test.YtkdkpfnglogpdaaWSd
set_option linter.unusedVariables false
set_option linter.unusedSimpArgs false
namespace VM
open Go

/-- Sorted in blocks of so many. -/
inductive Bk (bs : Nat) : List TEv → Prop
  | last {D} : Srt D → D.length ≤ bs → Bk bs D
  | cons {X D} : Srt X → X.length = bs → Bk bs D → Bk bs (X ++ D)

theorem Bk.srt {bs : Nat} {D : List TEv} (h : Bk bs D) (hl : D.length ≤ bs) : Srt D := by
  cases h with
  | last h _ => exact h
  | @cons X D h1 h2 h3 =>
    have : D = [] := by
      cases D with
      | nil => rfl
      | cons _ _ => simp at hl; omega
    subst this
    simpa using h1

theorem blocks_eq {k : Nat} (hk : 1001 < k) {N : Int} : ∀ (n : Nat) (D P : List TEv), D.length ≤ n → N = (P.length + D.length : Nat) → P.length + D.length ≤ 1000 → ∀ q, n < q → ∃ D', D'.Perm D ∧ Bk 20 D' ∧
    iter (VF.slices_stableCmpFunc_impl_Event.l4 k N (VF.slices_stableCmpFunc_impl_Event.j3 k N)) q (P ++ D, 20, (P.length : Int), ((P.length + 20 : Nat) : Int)) = iter (VF.slices_stableCmpFunc_impl_Event.l2 k N) k (P ++ D', 20) := by
  intro n
  induction n using Nat.strongRecOn with
  | _ n ih =>
    intro D P hn hN hs q hq
    obtain ⟨q, rfl⟩ : ∃ p, q = p + 1 := ⟨q - 1, by omega⟩
    rw [iter_succ]
    by_cases hD : 20 ≤ D.length
    · have hX : (D.take 20).length = 20 := by simp; omega
      obtain ⟨Z, h1, h2, h3⟩ := insertion_eq (k := k) (by omega) (P := P) (X := D.take 20) (S := D.drop 20) (a := (P.length : Int)) (b := ((P.length + 20 : Nat) : Int)) rfl (by rw [hX]) (by omega)
      have hZ : Z.length = 20 := by rw [h2.length_eq, hX]
      obtain ⟨D', g1, g2, g3⟩ := ih (n - 20) (by omega) (D.drop 20) (P ++ Z) (by simp; omega) (by simp; omega) (by simp; omega) q (by omega)
      generalize iter (VF.slices_stableCmpFunc_impl_Event.l4 k N (VF.slices_stableCmpFunc_impl_Event.j3 k N)) q = I at *
      unfold VF.slices_stableCmpFunc_impl_Event.l4
      have c1 : decide (((P.length + 20 : Nat) : Int) ≤ N) = true := by simp; omega
      simp only [c1, sel_true]
      rw [show P ++ (D.take 20 ++ D.drop 20) = P ++ D by rw [List.take_append_drop]] at h1
      rw [h1]
      simp only [bnd_some']
      refine ⟨Z ++ D', ?_, .cons h3 hZ g2, ?_⟩
      · have := List.Perm.append h2 g1
        rwa [List.take_append_drop] at this
      · rw [w64 (by omega) (by omega)]
        rw [show ((P.length + 20 : Nat) : Int) + 20 = (((P ++ Z).length + 20 : Nat) : Int) by simp; omega, show ((P.length + 20 : Nat) : Int) = ((P ++ Z).length : Int) by simp; omega]
        rw [← List.append_assoc, g3, List.append_assoc]
    · unfold VF.slices_stableCmpFunc_impl_Event.l4
      have c1 : decide (((P.length + 20 : Nat) : Int) ≤ N) = false := by simp; omega
      simp only [c1, sel_false]
      unfold VF.slices_stableCmpFunc_impl_Event.j3
      obtain ⟨Z, h1, h2, h3⟩ := insertion_eq (k := k) (by omega) (P := P) (X := D) (S := []) (a := (P.length : Int)) (b := N) rfl hN (by omega)
      simp only [List.append_nil] at h1
      simp only [h1, bnd_some']
      exact ⟨Z, h2, .last h3 (by rw [h2.length_eq]; omega), rfl⟩

theorem pass_eq {k : Nat} (hk : 1001 < k) {N : Int} {bs : Nat} (hb : 0 < bs) (hb2 : bs ≤ 1000) (ih0 : List TEv × Int → Option (Unit × List TEv × Unit)) :
    ∀ (n : Nat) (D P : List TEv), D.length ≤ n → Bk bs D → N = (P.length + D.length : Nat) → P.length + D.length ≤ 1000 → ∀ q, n < q → ∃ D', D'.Perm D ∧ Bk (2 * bs) D' ∧
    iter (VF.slices_stableCmpFunc_impl_Event.l1 k N (VF.slices_stableCmpFunc_impl_Event.j0 k N ih0)) q (P ++ D, (bs : Int), (P.length : Int), ((P.length + 2 * bs : Nat) : Int)) = ih0 (P ++ D', ((2 * bs : Nat) : Int)) := by
  intro n
  induction n using Nat.strongRecOn with
  | _ n ih =>
    intro D P hn hB hN hs q hq
    obtain ⟨q, rfl⟩ : ∃ p, q = p + 1 := ⟨q - 1, by omega⟩
    rw [iter_succ]
    have wb : IntKind.wrap .i64 ((bs : Int) * 2) = ((2 * bs : Nat) : Int) := by rw [w64 (by omega) (by omega)]; omega
    have wm : IntKind.wrap .i64 ((P.length : Int) + (bs : Int)) = ((P.length + bs : Nat) : Int) := by rw [w64 (by omega) (by omega)]; omega
    cases hB with
    | last h1 h2 =>
      unfold VF.slices_stableCmpFunc_impl_Event.l1
      have c1 : decide (((P.length + 2 * bs : Nat) : Int) ≤ N) = false := by simp; omega
      simp only [c1, sel_false]
      unfold VF.slices_stableCmpFunc_impl_Event.j0
      simp only [wm, wb]
      have c2 : decide (((P.length + bs : Nat) : Int) < N) = false := by simp; omega
      simp only [c2, sel_false]
      exact ⟨D, List.Perm.refl _, .last h1 (by omega), rfl⟩
    | @cons X R h1 h2 h3 =>
      simp only [List.length_append] at hn hN hs
      have two : ∀ (Y R' : List TEv), Srt Y → Y.length = bs → Bk bs R' → R = Y ++ R' → ∃ D', D'.Perm (X ++ R) ∧ Bk (2 * bs) D' ∧
          VF.slices_stableCmpFunc_impl_Event.l1 k N (VF.slices_stableCmpFunc_impl_Event.j0 k N ih0) (iter (VF.slices_stableCmpFunc_impl_Event.l1 k N (VF.slices_stableCmpFunc_impl_Event.j0 k N ih0)) q) (P ++ (X ++ R), (bs : Int), (P.length : Int), ((P.length + 2 * bs : Nat) : Int)) = ih0 (P ++ D', ((2 * bs : Nat) : Int)) := by
        intro Y R' hY hYl hR' e
        subst e
        simp only [List.length_append] at hn hN hs
        obtain ⟨Z, m1, m2, m3⟩ := symMerge_eq hk P X Y R' (P.length : Int) ((P.length + bs : Nat) : Int) ((P.length + 2 * bs : Nat) : Int) h1 hY (by omega) (by omega) rfl (by omega) (by omega) (by omega) (by omega)
        have hZ : Z.length = 2 * bs := by rw [m2.length_eq]; simp; omega
        obtain ⟨D', g1, g2, g3⟩ := ih (n - 2 * bs) (by omega) R' (P ++ Z) (by omega) hR' (by simp; omega) (by simp; omega) q (by omega)
        generalize iter (VF.slices_stableCmpFunc_impl_Event.l1 k N (VF.slices_stableCmpFunc_impl_Event.j0 k N ih0)) q = I at *
        unfold VF.slices_stableCmpFunc_impl_Event.l1
        have c1 : decide (((P.length + 2 * bs : Nat) : Int) ≤ N) = true := by simp; omega
        simp only [c1, sel_true, wm]
        rw [m1]
        simp only [bnd_some']
        refine ⟨Z ++ D', ?_, .cons m3 hZ g2, ?_⟩
        · rw [← List.append_assoc]; exact List.Perm.append m2 g1
        · rw [w64 (x := 2 * (bs : Int)) (by omega) (by omega), w64 (by omega) (by omega)]
          rw [show ((P.length + 2 * bs : Nat) : Int) + 2 * (bs : Int) = (((P ++ Z).length + 2 * bs : Nat) : Int) by simp; omega, show ((P.length + 2 * bs : Nat) : Int) = ((P ++ Z).length : Int) by simp; omega]
          rw [← List.append_assoc, g3, List.append_assoc]
      cases h3 with
      | @last _ h4 h5 =>
        by_cases hf : R.length = bs
        · exact two R [] h4 hf (.last (by simp [Srt]) (by simp)) (by simp)
        · unfold VF.slices_stableCmpFunc_impl_Event.l1
          have c1 : decide (((P.length + 2 * bs : Nat) : Int) ≤ N) = false := by simp; omega
          simp only [c1, sel_false]
          unfold VF.slices_stableCmpFunc_impl_Event.j0
          simp only [wm, wb]
          by_cases h0 : R.length = 0
          · have : R = [] := List.eq_nil_of_length_eq_zero h0
            subst this
            have c2 : decide (((P.length + bs : Nat) : Int) < N) = false := by simp at hN ⊢; omega
            simp only [c2, sel_false]
            exact ⟨X ++ [], List.Perm.refl _, .last (by simpa using h1) (by simp; omega), rfl⟩
          · have c2 : decide (((P.length + bs : Nat) : Int) < N) = true := by simp; omega
            simp only [c2, sel_true]
            obtain ⟨Z, m1, m2, m3⟩ := symMerge_eq hk P X R [] (P.length : Int) ((P.length + bs : Nat) : Int) N h1 h4 (by omega) (by omega) rfl (by omega) (by omega) (by omega) (by omega)
            simp only [List.append_nil] at m1
            rw [m1]
            exact ⟨Z, m2, .last m3 (by rw [m2.length_eq]; simp; omega), rfl⟩
      | @cons Y R' h4 h5 h6 => exact two Y R' h4 h5 h6 rfl

theorem passes_eq {k : Nat} (hk : 1001 < k) : ∀ (n bs : Nat) (D : List TEv), D.length ≤ 1000 → D.length ≤ bs + n → 0 < bs → bs ≤ 1000 ∨ D.length ≤ bs → Bk bs D → ∀ q, n < q →
    ∃ Z, iter (VF.slices_stableCmpFunc_impl_Event.l2 k (D.length : Int)) q (D, (bs : Int)) = some ((), Z, ()) ∧ Z.Perm D ∧ Srt Z := by
  intro n
  induction n using Nat.strongRecOn with
  | _ n ih =>
    intro bs D hD hn hb hb2 hB q hq
    obtain ⟨q, rfl⟩ : ∃ p, q = p + 1 := ⟨q - 1, by omega⟩
    rw [iter_succ]
    by_cases hc : bs < D.length
    · obtain ⟨D', g1, g2, g3⟩ := pass_eq hk (N := (D.length : Int)) (bs := bs) hb (by omega) (iter (VF.slices_stableCmpFunc_impl_Event.l2 k (D.length : Int)) q) 1000 D [] (by omega) hB (by simp) (by simpa using hD) k (by omega)
      obtain ⟨Z, e1, e2, e3⟩ := ih (n - bs) (by omega) (2 * bs) D' (by rw [g1.length_eq]; omega) (by rw [g1.length_eq]; omega) (by omega) (by rw [g1.length_eq]; omega) g2 q (by omega)
      rw [g1.length_eq] at e1
      generalize iter (VF.slices_stableCmpFunc_impl_Event.l2 k (D.length : Int)) q = I at *
      unfold VF.slices_stableCmpFunc_impl_Event.l2
      have c1 : decide ((bs : Int) < (D.length : Int)) = true := by simp; omega
      simp only [c1, sel_true, join_eq]
      rw [w64 (by omega) (by omega)]
      simp only [List.nil_append, List.length_nil, Nat.zero_add] at g3
      rw [show (2 * (bs : Int)) = ((2 * bs : Nat) : Int) by omega]
      exact ⟨Z, by rw [← e1, ← g3]; rfl, e2.trans g1, e3⟩
    · unfold VF.slices_stableCmpFunc_impl_Event.l2
      have c1 : decide ((bs : Int) < (D.length : Int)) = false := by simp; omega
      simp only [c1, sel_false]
      exact ⟨D, rfl, List.Perm.refl _, hB.srt (by omega)⟩

theorem stable_ex {k : Nat} (hk : 1001 < k) {D : List TEv} (hD : D.length ≤ 1000) : ∃ Z, VF.slices_SortStableFunc_impl_Event_impl_Event k D = some ((), Z, ()) ∧ Z.Perm D ∧ Srt Z := by
  unfold VF.slices_SortStableFunc_impl_Event_impl_Event VF.slices_stableCmpFunc_impl_Event
  simp only [join_eq]
  obtain ⟨D', g1, g2, g3⟩ := blocks_eq hk (N := (D.length : Int)) 1000 D [] (by omega) (by simp) (by simpa using hD) k (by omega)
  simp only [List.nil_append, List.length_nil, Nat.zero_add] at g3
  have g3' : iter (VF.slices_stableCmpFunc_impl_Event.l4 k (D.length : Int) (VF.slices_stableCmpFunc_impl_Event.j3 k (D.length : Int))) k (D, 20, 0, 20) = iter (VF.slices_stableCmpFunc_impl_Event.l2 k (D.length : Int)) k (D', 20) := g3
  rw [g3']
  obtain ⟨Z, e1, e2, e3⟩ := passes_eq hk 1000 20 D' (by rw [g1.length_eq]; omega) (by rw [g1.length_eq]; omega) (by omega) (by omega) g2 k (by omega)
  rw [g1.length_eq] at e1
  have e1' : iter (VF.slices_stableCmpFunc_impl_Event.l2 k (D.length : Int)) k (D', 20) = some ((), Z, ()) := e1
  rw [e1']
  exact ⟨Z, rfl, e2.trans g1, e3⟩

theorem srt_unique : ∀ {A B : List TEv}, Srt A → Srt B → A.Perm B → A = B := by
  intro A
  induction A with
  | nil => intro B _ _ h; exact (List.nil_perm.1 h).symm ▸ rfl
  | cons a A ih =>
    intro B hA hB h
    cases B with
    | nil => exact absurd h.length_eq (by simp)
    | cons b B =>
      have e : a = b := by
        have h1 : a ∈ b :: B := h.mem_iff.1 (by simp)
        have h2 : b ∈ a :: A := h.mem_iff.2 (by simp)
        rcases List.mem_cons.1 h1 with h1 | h1
        · exact h1
        rcases List.mem_cons.1 h2 with h2 | h2
        · exact h2.symm
        exact ltE_tri ((List.pairwise_cons.1 hB).1 a h1) ((List.pairwise_cons.1 hA).1 b h2)
      subst e
      rw [ih (List.pairwise_cons.1 hA).2 (List.pairwise_cons.1 hB).2 (List.Perm.cons_inv h)]
end VM
