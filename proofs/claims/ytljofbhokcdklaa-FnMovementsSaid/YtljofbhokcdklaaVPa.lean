/- Plain laws: loops over lists, and small words. -/
import Derived.Test.YtljofbhokcdklaaVRa
set_option linter.unusedVariables false
set_option linter.unusedSimpArgs false
namespace VM
open Go

theorem w64 {x : Int} (h : -9223372036854775808 ≤ x) (h' : x ≤ 9223372036854775807) : IntKind.wrap .i64 x = x := by rw [IntKind.wrap_i64]; omega
def I64 (x : Int) : Prop := -9223372036854775808 ≤ x ∧ x ≤ 9223372036854775807
theorem wrap_I64 (x : Int) : I64 (IntKind.wrap .i64 x) := by rw [IntKind.wrap_i64]; unfold I64; omega
theorem I64.w {x : Int} (h : I64 x) : IntKind.wrap .i64 x = x := w64 h.1 h.2
theorem I64.of_wf {x : Int} (h : (Lit.int .i64 x).wf = true) : I64 x := by
  simp [Lit.wf, IntKind.min, IntKind.max, IntKind.signed, IntKind.bits] at h
  unfold I64; omega

section
variable {R α : Type}
@[simp] theorem sel_true (a b : Option R) : sel true a b = a := rfl
@[simp] theorem sel_false (a b : Option R) : sel false a b = b := rfl
@[simp] theorem grd_true (K : Option R) : grd true K = K := rfl
@[simp] theorem bnd_some' (a : α) (K : α → Option R) : bnd (some a) K = K a := rfl
@[simp] theorem join_eq {D : Type} (J : D → Option R) (b : (D → Option R) → Option R) : join J b = b J := rfl
theorem sel_if (c : Bool) (a b : Option R) : sel c a b = if c = true then a else b := by cases c <;> rfl
theorem grd_of {c : Bool} (h : c = true) (K : Option R) : grd c K = K := by rw [h]; rfl
@[simp] theorem rdL_mid (pre post : List α) (x d : α) : rdL (pre ++ x :: post) (pre.length : Int) d = x := by simp [rdL]
@[simp] theorem rdL_mid_ofNat (pre post : List α) (x d : α) : rdL (pre ++ x :: post) (Int.ofNat pre.length) d = x := by simp [rdL]
@[simp] theorem inb_mid (pre post : List α) (x : α) : inb (pre ++ x :: post) (pre.length : Int) = true := by simp [inb]; omega
@[simp] theorem wrL_mid (pre post : List α) (x y : α) : wrL (pre ++ x :: post) (pre.length : Int) y = pre ++ y :: post := by simp [wrL]
@[simp] theorem lt_mid (pre post : List α) (x : α) : decide ((pre.length : Int) < ((pre ++ x :: post).length : Int)) = true := by simp; omega
theorem fits_of {n b : Nat} (hb : 0 < b) (h : n * b ≤ 140737488355328) : fits n b = true := by simp [fits, h, hb]

theorem iter_zero {D : Type} (s : (D → Option R) → D → Option R) (d : D) : iter s 0 d = none := rfl
theorem iter_succ {D : Type} (s : (D → Option R) → D → Option R) (n : Nat) (d : D) : iter s (n + 1) d = s (iter s n) d := rfl

/-- A loop that goes through a list by an index. -/
theorem iter_run {D A X : Type} {s : (D → Option R) → D → Option R} (st : A → Nat → D) (xs : List X) (V : List X → A → Option R) (Inv : List X → A → Prop)
    (hstep : ∀ (ih : D → Option R) (a : A) (pre : List X) (x : X) (post : List X), xs = pre ++ x :: post → Inv pre a →
      (∀ a', Inv (pre ++ [x]) a' → ih (st a' (pre.length + 1)) = V post a') → s ih (st a pre.length) = V (x :: post) a)
    (hend : ∀ (ih : D → Option R) (a : A), Inv xs a → s ih (st a xs.length) = V [] a)
    {k : Nat} (hk : xs.length < k) {a : A} (ha : Inv [] a) : iter s k (st a 0) = V xs a := by
  have key : ∀ (post pre : List X), xs = pre ++ post → ∀ k, post.length < k → ∀ a, Inv pre a → iter s k (st a pre.length) = V post a := by
    intro post
    induction post with
    | nil =>
      intro pre hx k hk a ha
      cases k with
      | zero => omega
      | succ k =>
        rw [List.append_nil] at hx
        subst hx
        rw [iter_succ]
        exact hend _ a ha
    | cons x post ih =>
      intro pre hx k hk a ha
      cases k with
      | zero => omega
      | succ k =>
        rw [iter_succ]
        refine hstep _ a pre x post hx ha (fun a' ha' => ?_)
        have := ih (pre ++ [x]) (by simpa using hx) k (by simp at hk; omega) a' ha'
        simpa using this
  simpa using key xs [] rfl k hk a ha

/-- .. that copies it, element by element. -/
theorem iter_copy {X Y : Type} {s : (List Y × Int → Option R) → List Y × Int → Option R} (g : X → Y) (z : Y) (J : List Y → Option R) (xs : List X)
    (hstep : ∀ ih (pre : List X) (x : X) (post : List X) (q : List Y) (y : Y) (rest : List Y), xs = pre ++ x :: post → q.length = pre.length → s ih (q ++ y :: rest, (pre.length : Int)) = ih (q ++ g x :: rest, ((pre.length + 1 : Nat) : Int)))
    (hend : ∀ ih q, s ih (q, (xs.length : Int)) = J q) {k : Nat} (hk : xs.length < k) : iter s k (List.replicate xs.length z, 0) = J (xs.map g) := by
  have := iter_run (s := s) (st := fun (a : List Y) (i : Nat) => (a, (i : Int))) xs (fun post a => J (a.take (xs.length - post.length) ++ post.map g))
    (fun pre a => a = pre.map g ++ List.replicate (xs.length - pre.length) z)
    (fun ih a pre x post hx ha h => by
      subst ha
      have hlen : xs.length - pre.length = post.length + 1 := by rw [hx]; simp only [List.length_append, List.length_cons]; omega
      rw [hlen, List.replicate_succ, hstep ih pre x post (pre.map g) z _ hx (by simp)]
      rw [h (pre.map g ++ g x :: List.replicate post.length z) (by
        simp only [List.map_append, List.map_cons, List.map_nil, List.append_assoc, List.singleton_append, List.length_append, List.length_cons, List.length_nil]
        rw [show xs.length - (pre.length + (0 + 1)) = post.length by omega])]
      congr 1
      have h2 : xs.length - post.length = pre.length + 1 := by rw [hx]; simp only [List.length_append, List.length_cons]; omega
      have h3 : xs.length - (x :: post).length = pre.length := by rw [hx]; simp
      rw [h2, h3]
      have e1 : (List.map g pre ++ z :: List.replicate post.length z).take pre.length = List.map g pre := by
        rw [List.take_append_of_le_length (by simp), List.take_of_length_le (by simp)]
      have e2 : (List.map g pre ++ g x :: List.replicate post.length z).take (pre.length + 1) = List.map g pre ++ [g x] := by
        rw [show List.map g pre ++ g x :: List.replicate post.length z = (List.map g pre ++ [g x]) ++ List.replicate post.length z by simp]
        rw [List.take_append_of_le_length (by simp)]
        rw [List.take_of_length_le (by simp)]
      rw [e1, e2]
      simp)
    (fun ih a ha => by
      rw [hend]
      congr 1
      simp only [List.length_nil, Nat.sub_zero, List.map_nil, List.append_nil]
      subst ha
      rw [List.take_of_length_le (by simp)])
    hk (a := List.replicate xs.length z) (by simp)
  rw [show ((0 : Int)) = ((0 : Nat) : Int) by rfl, this]
  simp

/-- .. that answers at the first of them that is not right. -/
theorem iter_all {X D : Type} {s : (D → Option R) → D → Option R} (st : Nat → D) (xs : List X) (p : X → Bool) (no yes : Option R)
    (hstep : ∀ (ih : D → Option R) (pre : List X) (x : X) (post : List X), xs = pre ++ x :: post → s ih (st pre.length) = sel (p x) (ih (st (pre.length + 1))) no)
    (hend : ∀ (ih : D → Option R), s ih (st xs.length) = yes)
    {k : Nat} (hk : xs.length < k) : iter s k (st 0) = sel (xs.all p) yes no :=
  iter_run (A := Unit) (s := s) (fun _ i => st i) xs (fun post _ => sel (post.all p) yes no) (fun _ _ => True)
    (fun ih a pre x post hx _ h => by
      rw [hstep ih pre x post hx, h () trivial, List.all_cons]
      cases p x <;> rfl)
    (fun ih a _ => by rw [hend]; rfl) hk (a := ()) trivial

/-- .. that gathers. -/
theorem iter_fold {X A D : Type} {s : (D → Option R) → D → Option R} (st : A → Nat → D) (xs : List X) (f : A → X → A) (J : A → Option R) (Inv : List X → A → Prop)
    (hinv : ∀ (a : A) (pre : List X) (x : X) (post : List X), xs = pre ++ x :: post → Inv pre a → Inv (pre ++ [x]) (f a x))
    (hstep : ∀ (ih : D → Option R) (a : A) (pre : List X) (x : X) (post : List X), xs = pre ++ x :: post → Inv pre a → s ih (st a pre.length) = ih (st (f a x) (pre.length + 1)))
    (hend : ∀ (ih : D → Option R) (a : A), Inv xs a → s ih (st a xs.length) = J a)
    {k : Nat} (hk : xs.length < k) {a : A} (ha : Inv [] a) : iter s k (st a 0) = J (xs.foldl f a) :=
  iter_run (s := s) st xs (fun post a => J (post.foldl f a)) Inv
    (fun ih a pre x post hx ha h => by
      rw [hstep ih a pre x post hx ha, h _ (hinv a pre x post hx ha)]
      rfl)
    (fun ih a ha => by rw [hend _ _ ha]; rfl) hk ha

/-- All of them, each with those ahead of it. -/
def allP {X : Type} (p : List X → X → Bool) : List X → List X → Bool
  | _, [] => true
  | pre, x :: post => p pre x && allP p (pre ++ [x]) post
theorem allP_all {X : Type} (p : X → Bool) : ∀ (pre post : List X), allP (fun _ x => p x) pre post = post.all p
  | _, [] => rfl
  | pre, x :: post => by rw [allP, allP_all p, List.all_cons]
theorem allP_mem {X : Type} {p : List X → X → Bool} : ∀ {pre post : List X}, allP p pre post = true → ∀ x ∈ post, ∃ q, p q x = true
  | _, [], _, x, hx => by simp at hx
  | pre, y :: post, h, x, hx => by
    simp only [allP, Bool.and_eq_true] at h
    rcases List.mem_cons.1 hx with rfl | hx
    · exact ⟨pre, h.1⟩
    · exact allP_mem h.2 x hx

/-- .. that gathers, and answers at the first that is not right. -/
theorem iter_allf {X A D : Type} {s : (D → Option R) → D → Option R} (st : A → Nat → D) (xs : List X) (p : List X → X → Bool) (f : A → X → A) (no : Option R) (J : A → Option R) (Inv : List X → A → Prop)
    (hinv : ∀ (a : A) (pre : List X) (x : X) (post : List X), xs = pre ++ x :: post → Inv pre a → p pre x = true → Inv (pre ++ [x]) (f a x))
    (hstep : ∀ (ih : D → Option R) (a : A) (pre : List X) (x : X) (post : List X), xs = pre ++ x :: post → Inv pre a → s ih (st a pre.length) = sel (p pre x) (ih (st (f a x) (pre.length + 1))) no)
    (hend : ∀ (ih : D → Option R) (a : A), Inv xs a → s ih (st a xs.length) = J a)
    {k : Nat} (hk : xs.length < k) {a : A} (ha : Inv [] a) : iter s k (st a 0) = sel (allP p [] xs) (J (xs.foldl f a)) no := by
  have key : ∀ (post pre : List X), xs = pre ++ post → ∀ k, post.length < k → ∀ a, Inv pre a → iter s k (st a pre.length) = sel (allP p pre post) (J (post.foldl f a)) no := by
    intro post
    induction post with
    | nil =>
      intro pre hx k hk a ha
      cases k with
      | zero => omega
      | succ k =>
        rw [List.append_nil] at hx
        subst hx
        rw [iter_succ]
        exact hend _ a ha
    | cons x post ih =>
      intro pre hx k hk a ha
      cases k with
      | zero => omega
      | succ k =>
        rw [iter_succ, hstep _ a pre x post hx ha]
        simp only [allP]
        cases hp : p pre x with
        | false => rfl
        | true =>
          have := ih (pre ++ [x]) (by simpa using hx) k (by simp at hk; omega) _ (hinv a pre x post hx ha hp)
          simpa using this
  simpa using key xs [] rfl k hk a ha
end

/-- A loop that counts down what is left. -/
theorem iter_sz {X : Type} {s : (Int × Int → Option ((Int × Unit) × PUnit)) → Int × Int → Option ((Int × Unit) × PUnit)} (xs : List X) (P : X → Prop)
    (hstep : ∀ ih (pre : List X) (x : X) (post : List X) (left : Int), xs = pre ++ x :: post → 0 ≤ left → left ≤ 1048576 →
      ∃ r : Int, s ih (left, (pre.length : Int)) = sel (decide (r < 0)) (some ((-1, ()), ())) (ih (r, ((pre.length + 1 : Nat) : Int))) ∧ (r < 0 ∨ (0 ≤ r ∧ r ≤ left ∧ P x)))
    (hend : ∀ ih left, s ih (left, (xs.length : Int)) = some ((left, ()), ())) {k : Nat} (hk : xs.length < k) {left : Int} (h0 : 0 ≤ left) (h1 : left ≤ 1048576) :
    ∃ r : Int, iter s k (left, 0) = some ((r, ()), ()) ∧ (r < 0 ∨ (0 ≤ r ∧ r ≤ left ∧ ∀ x ∈ xs, P x)) := by
  have key : ∀ (post pre : List X), xs = pre ++ post → ∀ k, post.length < k → ∀ left : Int, 0 ≤ left → left ≤ 1048576 →
      ∃ r : Int, iter s k (left, (pre.length : Int)) = some ((r, ()), ()) ∧ (r < 0 ∨ (0 ≤ r ∧ r ≤ left ∧ ∀ x ∈ post, P x)) := by
    intro post
    induction post with
    | nil =>
      intro pre hx k hk left h0 h1
      cases k with
      | zero => omega
      | succ k =>
        rw [List.append_nil] at hx
        subst hx
        rw [iter_succ]
        exact ⟨left, hend _ _, .inr ⟨h0, Int.le_refl _, by simp⟩⟩
    | cons x post ih =>
      intro pre hx k hk left h0 h1
      cases k with
      | zero => omega
      | succ k =>
        rw [iter_succ]
        obtain ⟨r, hr, hor⟩ := hstep (iter s k) pre x post left hx h0 h1
        rw [hr]
        by_cases hn : r < 0
        · exact ⟨-1, by simp [hn], .inl (by omega)⟩
        · rcases hor with h | ⟨a1, a2, a3⟩
          · exact absurd h hn
          · obtain ⟨r', e1, e2⟩ := ih (pre ++ [x]) (by simpa using hx) k (by simp at hk; omega) r a1 (by omega)
            refine ⟨r', ?_, ?_⟩
            · simp only [hn, decide_false, sel_false]
              simpa using e1
            · rcases e2 with h | ⟨b1, b2, b3⟩
              · exact .inl h
              · refine .inr ⟨b1, by omega, fun y hy => ?_⟩
                rcases List.mem_cons.1 hy with rfl | hy
                · exact a3
                · exact b3 y hy
  simpa using key xs [] rfl k hk left h0 h1
end VM
