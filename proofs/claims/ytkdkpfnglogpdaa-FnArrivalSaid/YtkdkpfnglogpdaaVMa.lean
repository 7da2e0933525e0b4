/- Typed pure values, what it means that memory holds one (owned or shared), and the laws of that. -/
import Derived.Calls
import Derived.KernelRfl
import Derived.Laws.AppendOwn
import Derived.Laws.Rows
import Derived.Laws.World
set_option linter.unusedVariables false
namespace VM
open Go

inductive CK where
  | int (k : IntKind) | bool | str | sl (e : CK) | unit | pair (a b : CK)
  deriving DecidableEq

@[reducible] def CK.den : CK → Type
  | .int _ => Int
  | .bool => Bool
  | .str => List UInt8
  | .sl e => List e.den
  | .unit => Unit
  | .pair a b => a.den × b.den

def CK.size : CK → Nat
  | .unit => 0
  | .pair a b => a.size + b.size
  | _ => 1

def CK.flat : CK → Bool
  | .sl _ => false
  | .pair a b => a.flat && b.flat
  | _ => true

def CK.dflt : (c : CK) → c.den
  | .int _ => (0 : Int)
  | .bool => false
  | .str => []
  | .sl _ => []
  | .unit => ()
  | .pair a b => (a.dflt, b.dflt)

/-- The cells of the zero value. -/
def CK.zero : CK → List Value
  | .int k => [.int k 0]
  | .bool => [.bool false]
  | .str => [.string ⟨#[]⟩]
  | .sl _ => [.slice none 0 0]
  | .unit => []
  | .pair a b => a.zero ++ b.zero

def strV (s : List UInt8) : Value := .string ⟨s.toArray⟩

section preds
variable {α : Type}

def Cat (P : α → List Value → List Nat → Prop) : List α → List Value → List Nat → Prop
  | [], us, fp => us = [] ∧ fp = []
  | x :: xs, us, fp => ∃ u1 u2 f1 f2, us = u1 ++ u2 ∧ fp = f1 ++ f2 ∧ P x u1 f1 ∧ Cat P xs u2 f2

def CellsAt (w : World) (b off : Nat) (us : List Value) : Prop := ∀ j u, us[j]? = some u → w.cell? ⟨b, off + j, none⟩ = some u
def OwnB (w : World) (b n : Nat) : Prop := ∃ arr ty, w.heap[b]? = some (.cells arr ty (0, 0)) ∧ n ≤ arr.size

def RowOwn (w : World) (size : Nat) (P : α → List Value → List Nat → Prop) (xs : List α) (v : Value) (fp : List Nat) : Prop :=
  ∃ A cap, v = .slice A xs.length cap ∧ xs.length ≤ cap ∧
    ((xs = [] ∧ fp = [] ∧ A = none ∧ cap = 0) ∨
     ∃ b off vs fs, A = some ⟨b, off, none⟩ ∧ CellsAt w b off vs ∧ Cat P xs vs fs ∧ fp = b :: fs ∧ OwnB w b (off + cap * size))
def RowShr (Z : Nat → Prop) (w : World) (P : α → List Value → List Nat → Prop) (xs : List α) (v : Value) : Prop :=
  ∃ A cap, v = .slice A xs.length cap ∧ xs.length ≤ cap ∧
    (xs = [] ∨ ∃ b off vs fs, A = some ⟨b, off, none⟩ ∧ CellsAt w b off vs ∧ Cat P xs vs fs ∧ Z b)
end preds

/-- The cells 'us' read as 'x'; owned (d) through the blocks 'fp', or shared, in blocks of 'Z'. -/
def Has (Z : Nat → Prop) (w : World) (d : Bool) : (c : CK) → c.den → List Value → List Nat → Prop
  | .int k, n, us, fp => us = [.int k n] ∧ fp = []
  | .bool, b, us, fp => us = [.bool b] ∧ fp = []
  | .str, s, us, fp => us = [strV s] ∧ fp = []
  | .unit, _, us, fp => us = [] ∧ fp = []
  | .pair a b, x, us, fp => ∃ u1 u2 f1 f2, us = u1 ++ u2 ∧ fp = f1 ++ f2 ∧ Has Z w d a x.1 u1 f1 ∧ Has Z w d b x.2 u2 f2
  | .sl e, xs, us, fp => ∃ v, us = [v] ∧ ((d = true ∧ RowOwn w e.size (Has Z w d e) xs v fp) ∨ (d = false ∧ fp = [] ∧ RowShr Z w (Has Z w d e) xs v))

/-- A row that is owned; its elements owned (d) or shared. -/
abbrev Row (Z : Nat → Prop) (w : World) (d : Bool) (e : CK) (xs : List e.den) (v : Value) (fp : List Nat) : Prop :=
  RowOwn w e.size (Has Z w d e) xs v fp

section cat
variable {α : Type} {P Q : α → List Value → List Nat → Prop}

theorem Cat.mono (xs : List α) : ∀ {us fp}, (∀ x ∈ xs, ∀ u f, (∀ b ∈ f, b ∈ fp) → P x u f → Q x u f) → Cat P xs us fp → Cat Q xs us fp := by
  induction xs with
  | nil => exact fun _ h => h
  | cons x xs ih =>
    rintro us fp h ⟨u1, u2, f1, f2, rfl, rfl, h1, h2⟩
    refine ⟨u1, u2, f1, f2, rfl, rfl, h x (by simp) _ _ (fun b hb => by simp [hb]) h1, ih (fun y hy u f hf hp => h y (by simp [hy]) u f (fun b hb => ?_) hp) h2⟩
    simp [hf b hb]

theorem Cat.len {n : Nat} (hn : ∀ x u f, P x u f → u.length = n) : ∀ {xs : List α} {us fp}, Cat P xs us fp → us.length = xs.length * n
  | [], _, _, ⟨h, _⟩ => by simp [h]
  | x :: xs, _, _, ⟨u1, u2, f1, f2, h, _, h1, h2⟩ => by
    subst h
    rw [List.length_append, hn _ _ _ h1, Cat.len hn h2, List.length_cons, Nat.add_mul, Nat.one_mul, Nat.add_comm]

theorem Cat.append : ∀ {xs ys : List α} {us vs fp gp}, Cat P xs us fp → Cat P ys vs gp → Cat P (xs ++ ys) (us ++ vs) (fp ++ gp)
  | [], _, _, _, _, _, ⟨h1, h2⟩, h => by subst h1 h2; exact h
  | x :: xs, _, _, _, _, _, ⟨u1, u2, f1, f2, h, h', h1, h2⟩, k => by
    subst h h'
    exact ⟨u1, u2 ++ _, f1, f2 ++ _, by simp, by simp, h1, Cat.append h2 k⟩

theorem Cat.split : ∀ {xs ys : List α} {us fp}, Cat P (xs ++ ys) us fp → ∃ u1 u2 f1 f2, us = u1 ++ u2 ∧ fp = f1 ++ f2 ∧ Cat P xs u1 f1 ∧ Cat P ys u2 f2
  | [], _, us, fp, h => ⟨[], us, [], fp, rfl, rfl, ⟨rfl, rfl⟩, h⟩
  | x :: xs, ys, _, _, ⟨u1, u2, f1, f2, h, h', h1, h2⟩ => by
    obtain ⟨v1, v2, g1, g2, e1, e2, k1, k2⟩ := Cat.split (xs := xs) h2
    subst h h' e1 e2
    exact ⟨u1 ++ v1, v2, f1 ++ g1, g2, by simp, by simp, ⟨u1, v1, f1, g1, rfl, rfl, h1, k1⟩, k2⟩

theorem Cat.one {x : α} {us fp} (h : P x us fp) : Cat P [x] us fp := ⟨us, [], fp, [], by simp, by simp, h, rfl, rfl⟩
theorem Cat.of_one {x : α} {us fp} (h : Cat P [x] us fp) : P x us fp := by
  obtain ⟨u1, u2, f1, f2, rfl, rfl, h1, rfl, rfl⟩ := h
  simpa using h1
end cat

theorem CellsAt.append {w : World} {b off : Nat} {us vs : List Value} : CellsAt w b off (us ++ vs) ↔ CellsAt w b off us ∧ CellsAt w b (off + us.length) vs := by
  constructor
  · intro h
    refine ⟨fun j u hu => h j u ?_, fun j u hu => ?_⟩
    · rw [List.getElem?_append_left (List.getElem?_eq_some_iff.1 hu).1]; exact hu
    · have := h (us.length + j) u (by rw [List.getElem?_append_right (by omega)]; simpa using hu)
      rwa [← Nat.add_assoc] at this
  · rintro ⟨h1, h2⟩ j u hu
    by_cases hj : j < us.length
    · rw [List.getElem?_append_left hj] at hu; exact h1 j u hu
    · rw [List.getElem?_append_right (by omega)] at hu
      have := h2 (j - us.length) u hu
      rwa [show off + us.length + (j - us.length) = off + j by omega] at this

theorem CellsAt.nil (w : World) (b off : Nat) : CellsAt w b off [] := fun j u h => by simp at h

theorem CellsAt.frame {w w' : World} {b off : Nat} {us : List Value} (h : CellsAt w b off us) (hb : w'.heap[b]? = w.heap[b]?) : CellsAt w' b off us :=
  fun j u hu => (World.cell?_of_block (w := w) (w' := w') (a := ⟨b, off + j, none⟩) hb).trans (h j u hu)

theorem OwnB.frame {w w' : World} {b n : Nat} (h : OwnB w b n) (hb : w'.heap[b]? = w.heap[b]?) : OwnB w' b n := by
  obtain ⟨arr, ty, h1, h2⟩ := h
  exact ⟨arr, ty, hb.trans h1, h2⟩

theorem OwnB.lt {w : World} {b n : Nat} (h : OwnB w b n) : b < w.heap.size := by
  obtain ⟨arr, ty, h1, _⟩ := h
  exact (Array.getElem?_eq_some_iff.1 h1).1

theorem RowOwn.frame {α : Type} {w w' : World} {size : Nat} {P Q : α → List Value → List Nat → Prop} {xs : List α} {v : Value} {fp : List Nat}
    (h : RowOwn w size P xs v fp) (hb : ∀ b ∈ fp, w'.heap[b]? = w.heap[b]?) (hp : ∀ x u f, (∀ b ∈ f, b ∈ fp) → P x u f → Q x u f) : RowOwn w' size Q xs v fp := by
  obtain ⟨A, cap, hv, hc, h⟩ := h
  refine ⟨A, cap, hv, hc, ?_⟩
  rcases h with h | ⟨b, off, vs, fs, hA, h1, h2, rfl, h4⟩
  · exact .inl h
  · exact .inr ⟨b, off, vs, fs, hA, h1.frame (hb b (by simp)), h2.mono xs (fun x _ u f hf hpx => hp x u f (fun b' hb' => by simp [hf b' hb']) hpx), rfl, h4.frame (hb b (by simp))⟩

theorem Has.fp_false {Z : Nat → Prop} {w : World} : ∀ {c : CK} {x : c.den} {us : List Value} {fp : List Nat}, Has Z w false c x us fp → fp = []
  | .int _, _, _, _, h => h.2
  | .bool, _, _, _, h => h.2
  | .str, _, _, _, h => h.2
  | .unit, _, _, _, h => h.2
  | .pair a b, x, us, fp, ⟨u1, u2, f1, f2, h1, h2, h3, h4⟩ => by rw [h2, Has.fp_false h3, Has.fp_false h4]; rfl
  | .sl e, xs, us, fp, ⟨v, hu, h⟩ => by
    rcases h with ⟨hd, _⟩ | ⟨_, h, _⟩
    · cases hd
    · exact h

theorem Has.frame {Z Z' : Nat → Prop} {w w' : World} {d : Bool} (hZ : ∀ b, Z b → w'.heap[b]? = w.heap[b]?) (hZZ : ∀ b, Z b → Z' b) :
    ∀ {c : CK} {x : c.den} {us : List Value} {fp : List Nat}, Has Z w d c x us fp → (∀ b ∈ fp, w'.heap[b]? = w.heap[b]?) → Has Z' w' d c x us fp
  | .int _, _, _, _, h, _ => h
  | .bool, _, _, _, h, _ => h
  | .str, _, _, _, h, _ => h
  | .unit, _, _, _, h, _ => h
  | .pair a b, x, us, fp, ⟨u1, u2, f1, f2, h1, h2, h3, h4⟩, hb =>
    ⟨u1, u2, f1, f2, h1, h2, Has.frame hZ hZZ h3 (fun b' h' => hb b' (by simp [h2, h'])), Has.frame hZ hZZ h4 (fun b' h' => hb b' (by simp [h2, h']))⟩
  | .sl e, xs, us, fp, ⟨v, hu, h⟩, hb => by
    refine ⟨v, hu, ?_⟩
    rcases h with ⟨hd, h⟩ | ⟨hd, hf, A, cap, hv, hc, h⟩
    · exact .inl ⟨hd, h.frame hb (fun x u f hf hx => Has.frame hZ hZZ hx (fun b' hb' => hb b' (hf b' hb')))⟩
    · refine .inr ⟨hd, hf, A, cap, hv, hc, ?_⟩
      rcases h with h | ⟨b, off, vs, fs, hA, h1, h2, h3⟩
      · exact .inl h
      · refine .inr ⟨b, off, vs, fs, hA, h1.frame (hZ b h3), ?_, hZZ b h3⟩
        subst hd
        refine h2.mono xs (fun x _ u f _ hx => Has.frame hZ hZZ hx (fun b' hb' => ?_))
        simp [Has.fp_false hx] at hb'

theorem Has.len {Z : Nat → Prop} {w : World} {d : Bool} : ∀ {c : CK} {x : c.den} {us : List Value} {fp : List Nat}, Has Z w d c x us fp → us.length = c.size
  | .int _, _, _, _, h => by rw [h.1]; rfl
  | .bool, _, _, _, h => by rw [h.1]; rfl
  | .str, _, _, _, h => by rw [h.1]; rfl
  | .unit, _, _, _, h => by rw [h.1]; rfl
  | .pair a b, x, us, fp, ⟨u1, u2, f1, f2, h1, h2, h3, h4⟩ => by rw [h1, List.length_append, Has.len h3, Has.len h4]; rfl
  | .sl e, xs, us, fp, ⟨v, hu, h⟩ => by rw [hu]; rfl

theorem Has.lt {Z : Nat → Prop} {w : World} {d : Bool} : ∀ {c : CK} {x : c.den} {us : List Value} {fp : List Nat}, Has Z w d c x us fp → ∀ b ∈ fp, b < w.heap.size
  | .int _, _, _, _, h => by simp [h.2]
  | .bool, _, _, _, h => by simp [h.2]
  | .str, _, _, _, h => by simp [h.2]
  | .unit, _, _, _, h => by simp [h.2]
  | .pair a b, x, us, fp, ⟨u1, u2, f1, f2, h1, h2, h3, h4⟩ => by
    intro b' hb
    rw [h2, List.mem_append] at hb
    exact hb.elim (Has.lt h3 b') (Has.lt h4 b')
  | .sl e, xs, us, fp, ⟨v, hu, h⟩ => by
    rcases h with ⟨hd, A, cap, hv, hc, h⟩ | ⟨_, h, _⟩
    · rcases h with ⟨_, h, _⟩ | ⟨b, off, vs, fs, hA, h1, h2, h3, h4⟩
      · simp [h]
      · intro b' hb
        rw [h3] at hb
        rcases List.mem_cons.1 hb with rfl | hb
        · exact h4.lt
        · have key : ∀ {xs : List e.den} {vs fs}, Cat (Has Z w d e) xs vs fs → ∀ b ∈ fs, b < w.heap.size := by
            intro xs
            induction xs with
            | nil => rintro vs fs ⟨_, rfl⟩ b hb; simp at hb
            | cons y ys ih =>
              rintro vs fs ⟨u1, u2, f1, f2, _, rfl, k1, k2⟩ b hb
              rw [List.mem_append] at hb
              exact hb.elim (Has.lt k1 b) (ih k2 b)
          exact key h2 b' hb
    · simp [h]

theorem Cat.fp_mem {α : Type} {P : α → List Value → List Nat → Prop} {B : Nat → Prop} (hP : ∀ x u f, P x u f → ∀ b ∈ f, B b) : ∀ {xs : List α} {us fp}, Cat P xs us fp → ∀ b ∈ fp, B b
  | [], _, _, ⟨_, h⟩ => by simp [h]
  | x :: xs, _, _, ⟨u1, u2, f1, f2, _, h, h1, h2⟩ => by
    intro b hb
    rw [h, List.mem_append] at hb
    exact hb.elim (hP _ _ _ h1 b) (Cat.fp_mem hP h2 b)

theorem RowOwn.lt {α : Type} {w : World} {size : Nat} {P : α → List Value → List Nat → Prop} (hP : ∀ x u f, P x u f → ∀ b ∈ f, b < w.heap.size) {xs : List α} {v : Value} {fp : List Nat}
    (h : RowOwn w size P xs v fp) : ∀ b ∈ fp, b < w.heap.size := by
  obtain ⟨A, cap, hv, hc, h⟩ := h
  rcases h with ⟨_, h, _⟩ | ⟨b, off, vs, fs, hA, h1, h2, h3, h4⟩
  · simp [h]
  · intro b' hb
    rw [h3] at hb
    rcases List.mem_cons.1 hb with rfl | hb
    · exact h4.lt
    · exact Cat.fp_mem hP h2 b' hb

/-- What is owned may be given up: it is then shared. -/
theorem Has.share {Z Z' : Nat → Prop} {w : World} {d : Bool} (hZ : ∀ b, Z b → Z' b) :
    ∀ {c : CK} {x : c.den} {us : List Value} {fp : List Nat}, Has Z w d c x us fp → (∀ b ∈ fp, Z' b) → Has Z' w false c x us []
  | .int _, _, _, _, h, _ => ⟨h.1, rfl⟩
  | .bool, _, _, _, h, _ => ⟨h.1, rfl⟩
  | .str, _, _, _, h, _ => ⟨h.1, rfl⟩
  | .unit, _, _, _, h, _ => ⟨h.1, rfl⟩
  | .pair a b, x, us, fp, ⟨u1, u2, f1, f2, h1, h2, h3, h4⟩, hb =>
    ⟨u1, u2, [], [], h1, rfl, Has.share hZ h3 (fun b' h' => hb b' (by simp [h2, h'])), Has.share hZ h4 (fun b' h' => hb b' (by simp [h2, h']))⟩
  | .sl e, xs, us, fp, ⟨v, hu, h⟩, hb => by
    refine ⟨v, hu, .inr ⟨rfl, rfl, ?_⟩⟩
    have key : ∀ {xs : List e.den} {vs fs}, Cat (Has Z w d e) xs vs fs → (∀ b ∈ fs, Z' b) → Cat (Has Z' w false e) xs vs [] := by
      intro xs
      induction xs with
      | nil => rintro vs fs ⟨h, _⟩ _; exact ⟨h, rfl⟩
      | cons y ys ih =>
        rintro vs fs ⟨u1, u2, f1, f2, h, rfl, k1, k2⟩ hb
        exact ⟨u1, u2, [], [], h, rfl, Has.share hZ k1 (fun b h => hb b (by simp [h])), ih k2 (fun b h => hb b (by simp [h]))⟩
    rcases h with ⟨hd, A, cap, hv, hc, h⟩ | ⟨hd, hf, A, cap, hv, hc, h⟩
    · refine ⟨A, cap, hv, hc, ?_⟩
      rcases h with ⟨h, _⟩ | ⟨b, off, vs, fs, hA, h1, h2, h3, h4⟩
      · exact .inl h
      · exact .inr ⟨b, off, vs, [], hA, h1, key h2 (fun b' h' => hb b' (by simp [h3, h'])), hb b (by simp [h3])⟩
    · refine ⟨A, cap, hv, hc, ?_⟩
      rcases h with h | ⟨b, off, vs, fs, hA, h1, h2, h3⟩
      · exact .inl h
      · subst hd
        have hfs : fs = [] := by
          have := Cat.fp_mem (B := fun _ => False) (fun x u f h b hb => by rw [Has.fp_false h] at hb; simp at hb) h2
          cases fs with
          | nil => rfl
          | cons a l => exact (this a (by simp)).elim
        exact .inr ⟨b, off, vs, [], hA, h1, key h2 (by simp [hfs]), hZ b h3⟩

theorem Has.flat {Z : Nat → Prop} {w : World} {d : Bool} : ∀ {c : CK} {x : c.den} {us : List Value} {fp : List Nat}, c.flat = true → Has Z w d c x us fp →
    fp = [] ∧ ∀ Z' w' d', Has Z' w' d' c x us []
  | .int _, _, _, _, _, h => ⟨h.2, fun _ _ _ => ⟨h.1, rfl⟩⟩
  | .bool, _, _, _, _, h => ⟨h.2, fun _ _ _ => ⟨h.1, rfl⟩⟩
  | .str, _, _, _, _, h => ⟨h.2, fun _ _ _ => ⟨h.1, rfl⟩⟩
  | .unit, _, _, _, _, h => ⟨h.2, fun _ _ _ => ⟨h.1, rfl⟩⟩
  | .pair a b, x, us, fp, hf, ⟨u1, u2, f1, f2, h1, h2, h3, h4⟩ => by
    simp only [CK.flat, Bool.and_eq_true] at hf
    obtain ⟨e1, k1⟩ := Has.flat hf.1 h3
    obtain ⟨e2, k2⟩ := Has.flat hf.2 h4
    exact ⟨by rw [h2, e1, e2]; rfl, fun Z' w' d' => ⟨u1, u2, [], [], h1, rfl, k1 Z' w' d', k2 Z' w' d'⟩⟩
  | .sl e, _, _, _, hf, _ => by simp [CK.flat] at hf

theorem Has.zero (Z : Nat → Prop) (w : World) (d : Bool) : ∀ c : CK, Has Z w d c c.dflt c.zero []
  | .int _ => ⟨rfl, rfl⟩
  | .bool => ⟨rfl, rfl⟩
  | .str => ⟨rfl, rfl⟩
  | .unit => ⟨rfl, rfl⟩
  | .pair a b => ⟨_, _, [], [], rfl, rfl, Has.zero Z w d a, Has.zero Z w d b⟩
  | .sl e => by
    refine ⟨_, rfl, ?_⟩
    cases d
    · exact .inr ⟨rfl, rfl, none, 0, rfl, Nat.le_refl _, .inl rfl⟩
    · exact .inl ⟨rfl, none, 0, rfl, Nat.le_refl _, .inl ⟨rfl, rfl, rfl, rfl⟩⟩

/-! ### parts of a value -/
structure Lens (c d : CK) where
  get : c.den → d.den
  set : c.den → d.den → c.den

def CK.lens : (c : CK) → (off : Nat) → (d : CK) → Option (Lens c d)
  | c, off, d =>
    if h : c = d ∧ off = 0 then some ⟨fun x => cast (congrArg CK.den h.1) x, fun _ y => cast (congrArg CK.den h.1.symm) y⟩ else
    match c with
    | .pair a b => bif Nat.blt off a.size then (CK.lens a off d).map fun L => ⟨fun x => L.get x.1, fun x y => (L.set x.1 y, x.2)⟩
        else (CK.lens b (off - a.size) d).map fun L => ⟨fun x => L.get x.2, fun x y => (x.1, L.set x.2 y)⟩
    | _ => none

theorem CK.lens_spec {Z : Nat → Prop} {w : World} {m : Bool} {d : CK} : ∀ {c : CK} {off : Nat} {L : Lens c d}, c.lens off d = some L →
    ∀ {x : c.den} {us : List Value} {fp : List Nat}, Has Z w m c x us fp →
      ∃ u1 um u2 f1 fm f2, us = u1 ++ (um ++ u2) ∧ u1.length = off ∧ fp = f1 ++ (fm ++ f2) ∧ Has Z w m d (L.get x) um fm ∧
        ∀ (Z' : Nat → Prop) (w' : World) (y : d.den) (um' : List Value) (fm' : List Nat), (∀ b, Z b → w'.heap[b]? = w.heap[b]?) → (∀ b, Z b → Z' b) →
          (∀ b, b ∈ f1 ∨ b ∈ f2 → w'.heap[b]? = w.heap[b]?) → Has Z' w' m d y um' fm' → Has Z' w' m c (L.set x y) (u1 ++ (um' ++ u2)) (f1 ++ (fm' ++ f2))
  | c, off, L, hL, x, us, fp, hh => by
    by_cases h : c = d ∧ off = 0
    · obtain ⟨rfl, rfl⟩ := h
      rw [CK.lens.eq_def] at hL
      simp only [and_self, dite_true, Option.some.injEq] at hL
      subst hL
      exact ⟨[], us, [], [], fp, [], by simp, rfl, by simp, hh, fun Z' w' y um' fm' _ _ _ hy => by simpa using hy⟩
    · match c with
      | .pair a b =>
        rw [CK.lens.eq_def] at hL
        dsimp only at hL
        rw [dif_neg h] at hL
        obtain ⟨u1, u2, f1, f2, rfl, rfl, h1, h2⟩ := hh
        cases hb : Nat.blt off a.size with
        | true =>
          rw [hb] at hL
          simp only [cond_true, Option.map_eq_some_iff] at hL
          obtain ⟨L', hL', rfl⟩ := hL
          obtain ⟨v1, vm, v2, g1, gm, g2, rfl, hl, rfl, hg, hs⟩ := CK.lens_spec hL' h1
          refine ⟨v1, vm, v2 ++ u2, g1, gm, g2 ++ f2, by simp, hl, by simp, hg, fun Z' w' y um' fm' hZ hZZ hf hy => ?_⟩
          refine ⟨v1 ++ (um' ++ v2), u2, g1 ++ (fm' ++ g2), f2, by simp, by simp, hs Z' w' y um' fm' hZ hZZ (fun b hb => hf b (by rcases hb with hb | hb <;> simp [hb])) hy, ?_⟩
          exact h2.frame hZ hZZ (fun b hb => hf b (by simp [hb]))
        | false =>
          rw [hb] at hL
          simp only [cond_false, Option.map_eq_some_iff] at hL
          obtain ⟨L', hL', rfl⟩ := hL
          obtain ⟨v1, vm, v2, g1, gm, g2, rfl, hl, rfl, hg, hs⟩ := CK.lens_spec hL' h2
          have hle : a.size ≤ off := by
            rw [← Nat.not_lt, ← Nat.blt_eq]
            intro hlt
            rw [hlt] at hb
            cases hb
          have hlen := h1.len
          refine ⟨u1 ++ v1, vm, v2, f1 ++ g1, gm, g2, by simp, by rw [List.length_append]; omega, by simp, hg, fun Z' w' y um' fm' hZ hZZ hf hy => ?_⟩
          refine ⟨u1, v1 ++ (um' ++ v2), f1, g1 ++ (fm' ++ g2), by simp, by simp, h1.frame hZ hZZ (fun b hb => hf b (by simp [hb])), ?_⟩
          exact hs Z' w' y um' fm' hZ hZZ (fun b hb => hf b (by rcases hb with hb | hb <;> simp [hb])) hy
      | .int _ | .bool | .str | .sl _ | .unit => rw [CK.lens.eq_def] at hL; dsimp only at hL; rw [dif_neg h] at hL; cases hL

def rdL {α : Type} (xs : List α) (i : Int) (d : α) : α := xs.getD i.toNat d
def wrL {α : Type} (xs : List α) (i : Int) (v : α) : List α := xs.set i.toNat v

theorem list_at {α : Type} (xs : List α) (i : Nat) (h : i < xs.length) (d : α) : xs = xs.take i ++ ([xs.getD i d] ++ xs.drop (i + 1)) := by
  rw [List.getD_eq_getElem?_getD, List.getElem?_eq_getElem h]
  simp

theorem list_set {α : Type} (xs : List α) (i : Nat) (h : i < xs.length) (y : α) : xs.set i y = xs.take i ++ ([y] ++ xs.drop (i + 1)) := by
  rw [List.set_eq_take_append_cons_drop, if_pos h]
  rfl

theorem CellsAt.of_same {w w' : World} {b o : Nat} {us : List Value} (h : CellsAt w b o us) (hs : ∀ j, j < us.length → w'.cell? ⟨b, o + j, none⟩ = w.cell? ⟨b, o + j, none⟩) : CellsAt w' b o us :=
  fun j u hu => (hs j (List.getElem?_eq_some_iff.1 hu).1).trans (h j u hu)

/-- One part of one element of an owned row: what it is, and what becomes of the row when it is written. -/
theorem RowOwn.elem {Z : Nat → Prop} {w : World} {d : Bool} {e : CK} {xs : List e.den} {v : Value} {fp : List Nat} (h : Row Z w d e xs v fp) {i : Int} (h0 : 0 ≤ i) (h1 : i < xs.length)
    {off : Nat} {c : CK} {L : Lens e c} (hL : e.lens off c = some L) :
    ∃ b o cap f1 fm f2 um, v = .slice (some ⟨b, o, none⟩) xs.length cap ∧ fp = b :: (f1 ++ (fm ++ f2)) ∧ OwnB w b (o + cap * e.size) ∧ xs.length ≤ cap ∧ off + c.size ≤ e.size ∧
      CellsAt w b (o + (i.toNat * e.size + off)) um ∧ Has Z w d c (L.get (rdL xs i e.dflt)) um fm ∧
      ∀ (Z' : Nat → Prop) (w' : World) (y : c.den) (um' : List Value) (fm' : List Nat), (∀ b, Z b → w'.heap[b]? = w.heap[b]?) → (∀ b, Z b → Z' b) →
        (∀ b', b' ∈ f1 ∨ b' ∈ f2 → w'.heap[b']? = w.heap[b']?) → (∀ n, OwnB w b n → OwnB w' b n) →
        (∀ j, j < o + (i.toNat * e.size + off) ∨ o + (i.toNat * e.size + off) + c.size ≤ j → w'.cell? ⟨b, j, none⟩ = w.cell? ⟨b, j, none⟩) →
        CellsAt w' b (o + (i.toNat * e.size + off)) um' → Has Z' w' d c y um' fm' →
        Row Z' w' d e (wrL xs i (L.set (rdL xs i e.dflt) y)) v (b :: (f1 ++ (fm' ++ f2))) := by
  obtain ⟨n, rfl⟩ := Int.eq_ofNat_of_zero_le h0
  simp only [Int.toNat_natCast, rdL, wrL] at *
  have hn : n < xs.length := by omega
  obtain ⟨A, cap, hv, hc, h⟩ := h
  rcases h with ⟨hx, _⟩ | ⟨b, o, vs, fs, rfl, hcell, hcat, rfl, hown⟩
  · rw [hx] at hn; simp at hn
  · rw [list_at xs n hn e.dflt] at hcat
    obtain ⟨v1, v2, g1, g2, rfl, rfl, hc1, hc2⟩ := Cat.split hcat
    obtain ⟨vm, v3, gm, g3, rfl, rfl, hm, hc3⟩ := Cat.split hc2
    have hm := Cat.of_one hm
    obtain ⟨u1, um, u2, f1, fm, f2, rfl, hlen, rfl, hg, hset⟩ := CK.lens_spec hL hm
    have hl1 : v1.length = n * e.size := by
      rw [Cat.len (fun _ _ _ h => Has.len h) hc1, List.length_take, Nat.min_eq_left (by omega)]
    have hlm := hm.len
    have hlum := hg.len
    simp only [List.length_append] at hlm
    refine ⟨b, o, cap, g1 ++ f1, fm, f2 ++ g3, um, hv, by simp, hown, hc, by omega, ?_, hg, ?_⟩
    · have h2 := (CellsAt.append.1 hcell).2
      have h3 := (CellsAt.append.1 (CellsAt.append.1 h2).1).2
      have h4 := (CellsAt.append.1 h3).1
      rw [hl1, hlen] at h4
      rwa [show o + (n * e.size + off) = o + n * e.size + off by omega]
    · intro Z' w' y um' fm' hZ hZZ hf hO hout hin hy
      have hlum' := hy.len
      refine ⟨_, cap, hv.trans ?_, by simpa using hc, .inr ⟨b, o, v1 ++ ((u1 ++ (um' ++ u2)) ++ v3), g1 ++ ((f1 ++ (fm' ++ f2)) ++ g3), rfl, ?_, ?_, by simp, hO _ hown⟩⟩
      · simp
      · obtain ⟨c1, c2⟩ := CellsAt.append.1 hcell
        obtain ⟨c2, c3⟩ := CellsAt.append.1 c2
        obtain ⟨c2a, c2b⟩ := CellsAt.append.1 c2
        obtain ⟨c2b, c2c⟩ := CellsAt.append.1 c2b
        refine CellsAt.append.2 ⟨c1.of_same (fun j hj => hout _ (.inl (by omega))), CellsAt.append.2 ⟨CellsAt.append.2 ⟨c2a.of_same (fun j hj => hout _ (.inl (by omega))), CellsAt.append.2 ⟨?_, ?_⟩⟩, ?_⟩⟩
        · rw [hl1, hlen]
          rwa [show o + n * e.size + off = o + (n * e.size + off) by omega]
        · rw [hlum', ← hlum]
          exact c2c.of_same (fun j hj => hout _ (.inr (by omega)))
        · have e1 : (u1 ++ (um' ++ u2)).length = (u1 ++ (um ++ u2)).length := by simp only [List.length_append]; omega
          rw [e1]
          refine c3.of_same (fun j hj => hout _ (.inr ?_))
          simp only [List.length_append]
          omega
      · rw [list_set xs n hn]
        refine Cat.append (hc1.mono _ (fun x _ u f hf' hx => hx.frame hZ hZZ (fun b' hb' => hf b' (.inl (by simp [hf' b' hb']))))) (Cat.append (Cat.one ?_) (hc3.mono _ (fun x _ u f hf' hx => hx.frame hZ hZZ (fun b' hb' => hf b' (.inr (by simp [hf' b' hb']))))))
        exact hset Z' w' y um' fm' hZ hZZ (fun b' hb' => hf b' (by rcases hb' with hb' | hb' <;> simp [hb'])) hy

/-! ### rows inside of rows -/
def CK.cell : CK → Nat → Option CK
  | .pair a b, off => bif Nat.blt off a.size then a.cell off else b.cell (off - a.size)
  | c, off => bif Nat.beq off 0 then some c else none

abbrev Path := List (Int × Nat)

def getRow : (e : CK) → List e.den → Path → Option ((e' : CK) × List e'.den)
  | e, xs, [] => some ⟨e, xs⟩
  | e, xs, (i, off) :: p =>
    match e.cell off with
    | some (.sl e1) =>
      match e.lens off (.sl e1) with
      | some L => getRow e1 (L.get (rdL xs i e.dflt)) p
      | none => none
    | _ => none

def setRow : (e : CK) → List e.den → Path → (e' : CK) → List e'.den → Option (List e.den)
  | e, _, [], e', ys => if h : e' = e then some (cast (congrArg (fun c => List (CK.den c)) h) ys) else none
  | e, xs, (i, off) :: p, e', ys =>
    match e.cell off with
    | some (.sl e1) =>
      match e.lens off (.sl e1) with
      | some L =>
        match setRow e1 (L.get (rdL xs i e.dflt)) p e' ys with
        | some zs => some (wrL xs i (L.set (rdL xs i e.dflt) zs))
        | none => none
      | none => none
    | _ => none

/-- 'v'' is the slice value that one comes to from the slice value 'v' of elements 'e' along the path. -/
def RowAt (w : World) : CK → Value → Path → Value → Prop
  | _, v, [], v' => v' = v
  | e, v, (i, off) :: p, v' => ∃ b o len cap u e1, v = .slice (some ⟨b, o, none⟩) len cap ∧ 0 ≤ i ∧ i < (len : Int) ∧ e.cell off = some (.sl e1) ∧
      w.cell? ⟨b, o + (i.toNat * e.size + off), none⟩ = some u ∧ RowAt w e1 u p v'

theorem RowOwn.focus {Z : Nat → Prop} {w : World} {e' : CK} {ys : List e'.den} {v' : Value} {d : Bool} : ∀ {p : Path}, (d = true ∨ p = []) → ∀ {e : CK} {xs : List e.den} {v : Value} {fp : List Nat}, Row Z w d e xs v fp →
    RowAt w e v p v' → getRow e xs p = some ⟨e', ys⟩ →
    ∃ f1 fm f2, fp = f1 ++ (fm ++ f2) ∧ Row Z w d e' ys v' fm ∧
      ∀ (Z' : Nat → Prop) (w' : World) (ys' : List e'.den) (fm' : List Nat), (∀ b, Z b → w'.heap[b]? = w.heap[b]?) → (∀ b, Z b → Z' b) →
        (∀ b, b ∈ f1 ∨ b ∈ f2 → w'.heap[b]? = w.heap[b]?) → Row Z' w' d e' ys' v' fm' →
        ∃ xs', setRow e xs p e' ys' = some xs' ∧ Row Z' w' d e xs' v (f1 ++ (fm' ++ f2))
  | [], _, e, xs, v, fp, h, hat, hg => by
    simp only [getRow, Option.some.injEq] at hg
    cases hg
    cases hat
    exact ⟨[], fp, [], by simp, h, fun Z' w' ys' fm' _ _ _ hy => ⟨ys', by simp [setRow], by simpa using hy⟩⟩
  | (i, off) :: p, hd, e, xs, v, fp, h, hat, hg => by
    obtain ⟨b, o, len, cap, u, e1, rfl, h0, hi, hce, hu, hat⟩ := hat
    have hd : d = true := by simpa using hd
    subst hd
    simp only [getRow, hce] at hg
    cases hL : e.lens off (.sl e1) with
    | none => rw [hL] at hg; cases hg
    | some L =>
      rw [hL] at hg
      have hlen : len = xs.length := by
        obtain ⟨A, cap', hv, _⟩ := h
        cases hv
        rfl
      subst hlen
      obtain ⟨b', o', cap', f1, fm, f2, um, hv, rfl, hown, hc, hsz, hcells, hm, hset⟩ := RowOwn.elem h h0 hi hL
      cases hv
      obtain ⟨u', rfl, hm⟩ := hm
      rcases hm with ⟨_, hm⟩ | ⟨h, _⟩
      case inr => cases h
      have hu' := hcells 0 u' rfl
      rw [Nat.add_zero, hu] at hu'
      cases hu'
      obtain ⟨g1, gm, g2, rfl, hrow, hback⟩ := RowOwn.focus (.inl rfl) hm hat hg
      refine ⟨b :: (f1 ++ g1), gm, g2 ++ f2, by simp, hrow, ?_⟩
      intro Z' w' ys' fm' hZ hZZ hf hy
      obtain ⟨zs, hzs, hz⟩ := hback Z' w' ys' fm' hZ hZZ (fun b' hb' => hf b' (by rcases hb' with hb' | hb' <;> simp [hb'])) hy
      have hb : w'.heap[b]? = w.heap[b]? := hf b (.inl (by simp))
      have hcell : ∀ j, w'.cell? ⟨b, j, none⟩ = w.cell? ⟨b, j, none⟩ := fun j => World.cell?_of_block (w := w) (a := ⟨b, j, none⟩) hb
      have := hset Z' w' zs [u] (g1 ++ (fm' ++ g2)) hZ hZZ (fun b' hb' => hf b' (by rcases hb' with hb' | hb' <;> simp [hb'])) (fun n hn => hn.frame hb) (fun j _ => hcell j) (hcells.frame hb)
        ⟨u, rfl, .inl ⟨rfl, hz⟩⟩
      exact ⟨wrL xs i (L.set (rdL xs i e.dflt) zs), by simp only [setRow, hce, hL, hzs], by simpa using this⟩
end VM
