/- The ledger: sums without a bound, and what adding up does to them. -/
import Derived.Test.YtljofbhokcdklaaVPb
set_option linter.unusedVariables false
set_option linter.unusedSimpArgs false
namespace VM
open Go

def sumZ : List Ent → Key → Int
  | [], _ => 0
  | e :: l, b => (if e.1 = b then e.2.1 else 0) + sumZ l b

theorem sumZ_append : ∀ (l m : List Ent) (b : Key), sumZ (l ++ m) b = sumZ l b + sumZ m b
  | [], m, b => by simp [sumZ]
  | e :: l, m, b => by simp only [List.cons_append, sumZ, sumZ_append l m b]; omega

theorem wrap_wrap_add (x y : Int) : IntKind.wrap .i64 (IntKind.wrap .i64 x + y) = IntKind.wrap .i64 (x + y) := by simp only [IntKind.wrap_i64]; omega
theorem wrap_add_wrap (x y : Int) : IntKind.wrap .i64 (x + IntKind.wrap .i64 y) = IntKind.wrap .i64 (x + y) := by simp only [IntKind.wrap_i64]; omega
theorem wrap_wrap (x : Int) : IntKind.wrap .i64 (IntKind.wrap .i64 x) = IntKind.wrap .i64 x := by simp only [IntKind.wrap_i64]; omega

theorem sumW_Z (l : List Ent) (b : Key) : sumW l b = IntKind.wrap .i64 (sumZ l b) := by
  refine snoc_ind (P := fun l => sumW l b = IntKind.wrap .i64 (sumZ l b)) (by show (0 : Int) = IntKind.wrap .i64 0; decide) (fun l e ih => ?_) l
  rw [sumW_snoc, sumZ_append, ih]
  simp only [sumZ]
  by_cases h : e.1 = b
  · simp only [h, if_true, wrap_wrap_add, Int.add_zero]
  · simp only [h, if_false, Int.add_zero]

theorem sumZ_none {l : List Ent} {b : Key} (h : ∀ e ∈ l, e.1 ≠ b) : sumZ l b = 0 := by
  induction l with
  | nil => rfl
  | cons e l ih => simp only [sumZ, if_neg (h e (by simp)), ih fun x hx => h x (by simp [hx])]; rfl

theorem sumZ_getE : ∀ {l : List Ent} (_ : SA l) (b : Key), sumZ l b = getE l b
  | [], _, b => rfl
  | e :: l, h, b => by
    obtain ⟨h1, h2⟩ := List.pairwise_cons.1 h
    simp only [sumZ, getE]
    by_cases hb : e.1 = b
    · rw [if_pos hb, if_pos hb, sumZ_none (fun x hx => by
        have := key_ne (h1 x hx)
        rw [hb] at this
        exact Ne.symm this), Int.add_zero]
    · rw [if_neg hb, if_neg hb, sumZ_getE h2, Int.zero_add]

/-- The sum of what was added up is the sum, as the machine adds. -/
theorem sumZ_adds {l : List Ent} (h : AllI l) (b : Key) : sumZ (adds l) b = IntKind.wrap .i64 (sumZ l b) := by
  obtain ⟨a1, a2, a3, a4⟩ := adds_spec l h
  rw [sumZ_getE a1, a4, sumW_Z]

theorem AllI.append {a b : List Ent} (ha : AllI a) (hb : AllI b) : AllI (a ++ b) := fun e he => (List.mem_append.1 he).elim (ha e) (hb e)

/-- Two lists with the same sums add up to the same. -/
theorem adds_ext {l m : List Ent} (hl : AllI l) (hm : AllI m) (h : ∀ b, IntKind.wrap .i64 (sumZ l b) = IntKind.wrap .i64 (sumZ m b)) : adds l = adds m := by
  obtain ⟨a1, a2, a3, a4⟩ := adds_spec l hl
  obtain ⟨b1, b2, b3, b4⟩ := adds_spec m hm
  refine ext_SA a1 b1 a2 b2 fun b => ?_
  rw [a4, b4, sumW_Z, sumW_Z, h]

theorem adds_adds {l m : List Ent} (hl : AllI l) (hm : AllI m) : adds (adds l ++ adds m) = adds (l ++ m) := by
  have h1 := (adds_spec l hl).2.2.1
  have h2 := (adds_spec m hm).2.2.1
  refine adds_ext (h1.append h2) (hl.append hm) fun b => ?_
  rw [sumZ_append, sumZ_append, sumZ_adds hl, sumZ_adds hm, wrap_wrap_add, wrap_add_wrap]

theorem sumZ_bound {l : List Ent} {n : Int} (h : ∀ e ∈ l, -n ≤ e.2.1 ∧ e.2.1 ≤ n) (h0 : 0 ≤ n) (b : Key) : -(n * l.length) ≤ sumZ l b ∧ sumZ l b ≤ n * l.length := by
  induction l with
  | nil => simp [sumZ]
  | cons e l ih =>
    have := ih fun x hx => h x (by simp [hx])
    have he := h e (by simp)
    have hm : n * ((e :: l).length : Int) = n * (l.length : Int) + n := by
      rw [List.length_cons]; push_cast; rw [Int.mul_add, Int.mul_one]
    rw [hm]
    simp only [sumZ]
    split <;> omega

theorem getE_of_mem {l : List Ent} (h : SA l) {e : Ent} (he : e ∈ l) : getE l e.1 = e.2.1 := by
  induction l with
  | nil => simp at he
  | cons x l ih =>
    obtain ⟨h1, h2⟩ := List.pairwise_cons.1 h
    rcases List.mem_cons.1 he with rfl | he
    · simp [getE]
    · rw [getE, if_neg (key_ne (h1 e he))]
      exact ih h2 he
end VM
