/- What is drawn: the numbers. -/
import Derived.Test.YtkdkpfnglogpdaaHVa
import Derived.Test.YtkdkpfnglogpdaaVQe
set_option linter.unusedVariables false
set_option linter.unusedSimpArgs false
namespace VM
open Go

abbrev Cur := List Int × Int × Int × Unit
def CurOk (c : Cur) : Prop := 0 ≤ c.2.1 ∧ c.1.length ≤ 1048576
/-- A draw that gives a value of which Q holds. -/
def Dr {α : Type} (f : Option ((α × Unit) × Cur × Unit)) (Q : α → Prop) : Prop := ∃ v c, f = some ((v, ()), (c, ())) ∧ CurOk c ∧ Q v

theorem and255 (x : Int) : 0 ≤ bitI .and .i64 x 255 ∧ bitI .and .i64 x 255 ≤ 255 := by
  have h : (BitVec.ofInt 64 x &&& BitVec.ofInt 64 255).toNat ≤ 255 := by
    rw [BitVec.toNat_and]
    exact Nat.le_trans Nat.and_le_right (by decide)
  show 0 ≤ IntKind.wrap .i64 ((BitVec.ofInt 64 x &&& BitVec.ofInt 64 255).toNat : Int) ∧ IntKind.wrap .i64 ((BitVec.ofInt 64 x &&& BitVec.ofInt 64 255).toNat : Int) ≤ 255
  rw [w64 (by omega) (by omega)]
  omega

theorem byte_D (k : Nat) {c : Cur} (hc : CurOk c) : Dr (VF.spec_l1Byte k c) (fun v => 0 ≤ v ∧ v ≤ 255) := by
  obtain ⟨b, i, h, ⟨⟩⟩ := c
  obtain ⟨h0, h1⟩ := hc
  simp only at h0 h1
  unfold VF.spec_l1Byte
  simp only
  by_cases hi : i < (b.length : Int)
  · have g1 : decide (i < (b.length : Int)) = true := by simp [hi]
    have g2 : inb b i = true := by simp [inb, h0, hi]
    rw [g1, sel_true, g2, grd_true]
    refine ⟨_, _, rfl, ⟨?_, h1⟩, and255 _⟩
    simp only
    rw [w64 (by omega) (by omega)]
    omega
  · have g1 : decide (i < (b.length : Int)) = false := by simp [hi]
    rw [g1, sel_false]
    exact ⟨_, _, rfl, ⟨h0, h1⟩, and255 _⟩

theorem below_D (k : Nat) {c : Cur} (hc : CurOk c) (n : Int) (hn : n ≤ 2147483648) : Dr (VF.spec_l1Below k c n) (fun v => 0 ≤ v ∧ (0 < n → v < n)) := by
  obtain ⟨b, i, h, ⟨⟩⟩ := c
  unfold VF.spec_l1Below
  by_cases h0 : n ≤ 0
  · simp only [h0, decide_true, sel_true]
    exact ⟨_, _, rfl, hc, by omega, by omega⟩
  · have hne : n ≠ 0 := by omega
    simp only [h0, decide_false, sel_false, hne, Bool.not_false, grd_true]
    by_cases h256 : n ≤ 256
    · simp only [h256, decide_true, sel_true]
      obtain ⟨v, ⟨b', i', h', ⟨⟩⟩, e, ok, q⟩ := byte_D k hc
      rw [e]
      refine ⟨_, _, rfl, ok, ?_, ?_⟩
      · simp only [bnd_some']
        exact Int.tmod_nonneg n q.1
      · intro _
        exact Int.tmod_lt_of_pos v (by omega)
    · simp only [h256, decide_false, sel_false]
      obtain ⟨v1, ⟨b1, i1, h1, ⟨⟩⟩, e1, ok1, q1⟩ := byte_D k hc
      rw [e1]; simp only [bnd_some']
      obtain ⟨v2, ⟨b2, i2, h2, ⟨⟩⟩, e2, ok2, q2⟩ := byte_D k ok1
      rw [e2]; simp only [bnd_some']
      obtain ⟨v3, ⟨b3, i3, h3, ⟨⟩⟩, e3, ok3, q3⟩ := byte_D k ok2
      rw [e3]; simp only [bnd_some']
      obtain ⟨v4, ⟨b4, i4, h4, ⟨⟩⟩, e4, ok4, q4⟩ := byte_D k ok3
      rw [e4]; simp only [bnd_some']
      refine ⟨_, _, rfl, ok4, ?_, ?_⟩
      · rw [w64 (x := v1 * 16777216) (by omega) (by omega), w64 (x := v2 * 65536) (by omega) (by omega), w64 (x := v3 * 256) (by omega) (by omega), w64 (x := v1 * 16777216 + v2 * 65536) (by omega) (by omega),
          w64 (x := v1 * 16777216 + v2 * 65536 + v3 * 256) (by omega) (by omega), w64 (x := v1 * 16777216 + v2 * 65536 + v3 * 256 + v4) (by omega) (by omega)]
        exact Int.tmod_nonneg n (by omega)
      · intro _
        exact Int.tmod_lt_of_pos _ (by omega)

theorem once_D (k : Nat) {c : Cur} (hc : CurOk c) (n : Int) (hn : n ≤ 2147483648) : Dr (VF.spec_l1Once k c n) (fun _ => True) := by
  obtain ⟨b, i, h, ⟨⟩⟩ := c
  unfold VF.spec_l1Once
  obtain ⟨v, ⟨b', i', h', ⟨⟩⟩, e, ok, q⟩ := below_D k hc n hn
  rw [e]
  exact ⟨_, _, rfl, ok, trivial⟩

theorem inb_of {α : Type} {l : List α} {v : Int} (h0 : 0 ≤ v) (h1 : v < (l.length : Int)) : inb l v = true := by simp [inb, h0, h1]

theorem pickInt_D (k : Nat) {c : Cur} (hc : CurOk c) (l : List Int) (hl : 0 < l.length) (hl2 : l.length < 1000) : Dr (VF.spec_l1PickInt k c l) (fun _ => True) := by
  obtain ⟨b, i, h, ⟨⟩⟩ := c
  unfold VF.spec_l1PickInt
  obtain ⟨v, ⟨b', i', h', ⟨⟩⟩, e, ok, q⟩ := below_D k hc (l.length : Int) (by omega)
  rw [e]
  simp only [bnd_some']
  rw [inb_of q.1 (q.2 (by omega)), grd_true]
  exact ⟨_, _, rfl, ok, trivial⟩

theorem pick_D (k : Nat) {c : Cur} (hc : CurOk c) (l : List Key) (hl : 0 < l.length) (hl2 : l.length < 1000) : Dr (VF.spec_l1Pick k c l) (fun v => v ∈ l) := by
  obtain ⟨b, i, h, ⟨⟩⟩ := c
  unfold VF.spec_l1Pick
  obtain ⟨v, ⟨b', i', h', ⟨⟩⟩, e, ok, q⟩ := below_D k hc (l.length : Int) (by omega)
  rw [e]
  simp only [bnd_some']
  have hv := q.2 (by omega)
  rw [inb_of q.1 hv, grd_true]
  refine ⟨_, _, rfl, ok, ?_⟩
  simp only [rdL]
  have : v.toNat < l.length := by have := q.1; omega
  rw [List.getD_eq_getElem?_getD, List.getElem?_eq_getElem this]
  exact List.getElem_mem this

theorem day_D (k : Nat) {c : Cur} (hc : CurOk c) : Dr (VF.spec_l4Day k c) (fun _ => True) := by
  obtain ⟨b, i, h, ⟨⟩⟩ := c
  unfold VF.spec_l4Day
  obtain ⟨v, ⟨b', i', h', ⟨⟩⟩, e, ok, q⟩ := once_D k hc 12 (by omega)
  rw [e]
  simp only [bnd_some']
  cases v with
  | true =>
    simp only [sel_true]
    obtain ⟨v, ⟨b', i', h', ⟨⟩⟩, e, ok, q⟩ := pickInt_D k ok [-1, 999, 1000, 998, -9223372036854775808, 9223372036854775807] (by simp) (by simp)
    rw [e]
    exact ⟨_, _, rfl, ok, trivial⟩
  | false =>
    simp only [sel_false]
    obtain ⟨v, ⟨b', i', h', ⟨⟩⟩, e, ok, q⟩ := below_D k ok 40 (by omega)
    rw [e]
    exact ⟨_, _, rfl, ok, trivial⟩

theorem odd_D (k : Nat) {c : Cur} (hc : CurOk c) : Dr (VF.spec_l1Odd k c) (fun _ => True) := by
  obtain ⟨b, i, h, ⟨⟩⟩ := c
  unfold VF.spec_l1Odd
  obtain ⟨v, ⟨b', i', h', ⟨⟩⟩, e, ok, q⟩ := pickInt_D k hc [0, 1, -1, 2, 1000000, 1000001, -1000001, 1000000000, 1000000001, 9223372036854775807, -9223372036854775808] (by simp) (by simp)
  rw [e]
  exact ⟨_, _, rfl, ok, trivial⟩

theorem account_D (k : Nat) {c : Cur} (hc : CurOk c) : Dr (VF.spec_l35Account k c) (fun v => v.length ≤ 8) := by
  obtain ⟨b, i, h, ⟨⟩⟩ := c
  unfold VF.spec_l35Account
  obtain ⟨v, ⟨b', i', h', ⟨⟩⟩, e, ok, q⟩ := pick_D k hc [Array.toList #[67, 65, 83, 72], Array.toList #[83, 84, 79, 67, 75], Array.toList #[83, 65, 76, 69, 83], Array.toList #[67, 79, 83, 84], Array.toList #[87, 79, 82, 75], Array.toList #[83, 85, 80, 80, 76, 89]] (by simp) (by simp)
  rw [e]
  refine ⟨_, _, rfl, ok, ?_⟩
  simp only [List.mem_cons, List.not_mem_nil, or_false] at q
  rcases q with rfl | rfl | rfl | rfl | rfl | rfl <;> simp

def Sm8 (l : List Ent) : Prop := l.length ≤ 12 ∧ ∀ e ∈ l, e.1.length ≤ 8
theorem Sm8.sm {l : List Ent} (h : Sm8 l) : SmE l := ⟨by have := h.1; omega, fun e he => by have := h.2 e he; omega⟩

theorem entries_D (k : Nat) (hk : 100 < k) {c : Cur} (hc : CurOk c) : Dr (VF.spec_l35Entries k c) (fun l => Sm8 l) := by
  obtain ⟨b, i, h, ⟨⟩⟩ := c
  have f1 : ∀ m, m ≤ 1048576 + 2 → fits m 24 = true := fun m hm => fits_of (by omega) (by omega)
  -- the last touch
  have hJ0 : ∀ (b : List Int) (i h : Int) (l : List Ent), CurOk (b, i, h, ()) → 0 < l.length → l.length ≤ 4 → (∀ e ∈ l, e.1.length ≤ 8) → Dr (VF.spec_l35Entries.j0 k ((b, i, h), l)) (fun l => Sm8 l) := by
    intro b i h l hc h0 h4 h8
    unfold VF.spec_l35Entries.j0
    obtain ⟨v, ⟨b', i', h', ⟨⟩⟩, e, ok, q⟩ := once_D k hc 24 (by omega)
    rw [e]
    simp only [bnd_some']
    cases v with
    | false => exact ⟨_, _, rfl, ok, by omega, h8⟩
    | true =>
      simp only [sel_true]
      obtain ⟨v, ⟨b', i', h', ⟨⟩⟩, e, ok, q⟩ := odd_D k ok
      rw [e]
      simp only [bnd_some']
      rw [inb_of (l := l) (v := 0) (by omega) (by omega), grd_true]
      obtain ⟨x, r, rfl⟩ : ∃ x r, l = x :: r := by
        cases l with
        | nil => simp at h0
        | cons x r => exact ⟨x, r, rfl⟩
      refine ⟨_, _, rfl, ok, ?_, ?_⟩
      · simp only [wrL, Int.toNat_zero, List.set_cons_zero, List.length_cons] at h4 ⊢
        omega
      · intro y hy
        simp only [wrL, rdL, Int.toNat_zero, List.set_cons_zero, List.getD_cons_zero] at hy
        rcases List.mem_cons.1 hy with rfl | hy
        · exact h8 x (by simp)
        · exact h8 y (by simp [hy])
  have hJ1 : ∀ (b : List Int) (i h : Int) (l : List Ent) (s : Int), CurOk (b, i, h, ()) → 0 < l.length → l.length ≤ 3 → (∀ e ∈ l, e.1.length ≤ 8) → Dr (VF.spec_l35Entries.j1 k ((b, i, h), l, s)) (fun l => Sm8 l) := by
    intro b i h l s hc h0 h3 h8
    unfold VF.spec_l35Entries.j1
    simp only [join_eq]
    cases decide (s = 0) with
    | true => exact hJ0 b i h l hc h0 (by omega) h8
    | false =>
      simp only [Bool.not_false, sel_true]
      obtain ⟨v, ⟨b', i', h', ⟨⟩⟩, e, ok, q⟩ := once_D k hc 20 (by omega)
      rw [e]
      simp only [bnd_some']
      cases v with
      | true => exact hJ0 b' i' h' l ok h0 (by omega) h8
      | false =>
        simp only [Bool.not_false, sel_true]
        obtain ⟨v, ⟨b', i', h', ⟨⟩⟩, e, ok, q⟩ := account_D k ok
        rw [e]
        simp only [bnd_some']
        rw [f1 _ (by simp; omega), grd_true]
        refine hJ0 b' i' h' _ ok (by simp) (by simp; omega) ?_
        intro y hy
        rcases List.mem_append.1 hy with hy | hy
        · exact h8 y hy
        · simp only [List.mem_singleton] at hy
          subst hy
          exact q
  unfold VF.spec_l35Entries
  rw [join_eq]
  obtain ⟨n, ⟨b', i', h', ⟨⟩⟩, e, ok, q⟩ := below_D k hc 3 (by omega)
  rw [e]
  simp only [bnd_some']
  have hq := q.2 (by omega)
  rw [w64 (x := 1 + n) (by omega) (by omega)]
  have key : ∀ (m : Nat) (b : List Int) (i h : Int) (l : List Ent) (s : Int) (j : Nat), m < j → CurOk (b, i, h, ()) → l.length + m ≤ 3 → 0 < l.length + m → (∀ e ∈ l, e.1.length ≤ 8) →
      Dr (iter (VF.spec_l35Entries.l2 k (VF.spec_l35Entries.j1 k)) j ((b, i, h), l, s, (m : Int))) (fun l => Sm8 l) := by
    intro m
    induction m with
    | zero =>
      intro b i h l s j hj hc h1 h2 h8
      obtain ⟨j', rfl⟩ : ∃ j', j = j' + 1 := ⟨j - 1, by omega⟩
      rw [iter_succ]
      simp only [VF.spec_l35Entries.l2, Int.natCast_zero, Int.lt_irrefl, decide_false, sel_false]
      exact hJ1 b i h l s hc (by omega) (by omega) h8
    | succ m ih =>
      intro b i h l s j hj hc h1 h2 h8
      obtain ⟨j', rfl⟩ : ∃ j', j = j' + 1 := ⟨j - 1, by omega⟩
      rw [iter_succ]
      have g1 : decide ((0 : Int) < ((m + 1 : Nat) : Int)) = true := by simp only [decide_eq_true_eq]; omega
      have g2 : IntKind.wrap .i64 (((m + 1 : Nat) : Int) - 1) = (m : Int) := by rw [w64 (by omega) (by omega)]; omega
      simp only [VF.spec_l35Entries.l2, g1, sel_true, g2]
      obtain ⟨v, ⟨b', i', h', ⟨⟩⟩, e, ok, q⟩ := account_D k hc
      rw [e]
      simp only [bnd_some']
      obtain ⟨v2, ⟨b', i', h', ⟨⟩⟩, e, ok, q2⟩ := below_D k ok 199 (by omega)
      rw [e]
      simp only [bnd_some']
      have hmem : ∀ (z : Int), ∀ y ∈ l ++ [((v : Key), z, ())], y.1.length ≤ 8 := by
        intro z y hy
        rcases List.mem_append.1 hy with hy | hy
        · exact h8 y hy
        · simp only [List.mem_singleton] at hy
          subst hy
          exact q
      cases decide (IntKind.wrap .i64 (v2 - 99) = 0) with
      | true =>
        simp only [sel_true]
        rw [f1 _ (by simp; omega), grd_true]
        exact ih b' i' h' _ _ j' (by omega) ok (by simp only [List.length_append, List.length_cons, List.length_nil]; omega) (by simp only [List.length_append, List.length_cons, List.length_nil]; omega) (hmem _)
      | false =>
        simp only [sel_false]
        rw [f1 _ (by simp; omega), grd_true]
        exact ih b' i' h' _ _ j' (by omega) ok (by simp only [List.length_append, List.length_cons, List.length_nil]; omega) (by simp only [List.length_append, List.length_cons, List.length_nil]; omega) (hmem _)
  have := key (1 + n).toNat b' i' h' [] 0 k (by omega) ok (by simp; omega) (by simp; omega) (by simp)
  rw [show (((1 + n).toNat : Nat) : Int) = 1 + n by omega] at this
  exact this
end VM
