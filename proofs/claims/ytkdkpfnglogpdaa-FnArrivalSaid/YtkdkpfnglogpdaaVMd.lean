/- Contents of slots: what is gathered from cells is there. -/
import Derived.Test.YtkdkpfnglogpdaaVMc
set_option linter.unusedVariables false
namespace VM
open Go

structure HOk (H h : Nat → RE) (d : Option Nat) : Prop where
  c : ∀ id, (H id).c ≠ .none → H id = h id
  n : ∀ j, j < 16 → H (nid d j) = h (nid d j)

theorem Row.share {Z Z' : Nat → Prop} {w : World} {d : Bool} {e : CK} {xs : List e.den} {v : Value} {fp : List Nat} (h : Row Z w d e xs v fp) (hZ : ∀ b, Z b → Z' b) (hf : ∀ b ∈ fp, Z' b) :
    RowShr Z' w (Has Z' w false e) xs v := by
  have key : ∀ {xs : List e.den} {vs fs}, Cat (Has Z w d e) xs vs fs → (∀ b ∈ fs, Z' b) → Cat (Has Z' w false e) xs vs [] := by
    intro xs
    induction xs with
    | nil => rintro vs fs ⟨h, _⟩ _; exact ⟨h, rfl⟩
    | cons y ys ih =>
      rintro vs fs ⟨u1, u2, f1, f2, h, rfl, k1, k2⟩ hb
      exact ⟨u1, u2, [], [], h, rfl, Has.share hZ k1 (fun b h => hb b (by simp [h])), ih k2 (fun b h => hb b (by simp [h]))⟩
  obtain ⟨A, cap, hv, hc, h⟩ := h
  refine ⟨A, cap, hv, hc, ?_⟩
  rcases h with ⟨h, _⟩ | ⟨b, off, vs, fs, hA, h1, h2, rfl, h4⟩
  · exact .inl h
  · exact .inr ⟨b, off, vs, [], hA, h1, key h2 (fun b' h' => hf b' (by simp [h'])), hf b (by simp)⟩

theorem subL_nil {α : Type} (lo hi : Int) : subL ([] : List α) lo hi = [] := by simp [subL]

theorem RowShr.sub {Z : Nat → Prop} {w : World} {e : CK} {xs : List e.den} {v u : Value} {lo hi : Int} (h : RowShr Z w (Has Z w false e) xs v) (hs : SubV e.size v lo hi u) :
    RowShr Z w (Has Z w false e) (subL xs lo hi) u := by
  obtain ⟨h0, h1, A, len, cap, hv, h2, rfl⟩ := hs
  obtain ⟨A', cap', hv', hc, h⟩ := h
  rw [hv'] at hv
  cases hv
  obtain ⟨l, rfl⟩ := Int.eq_ofNat_of_zero_le h0
  obtain ⟨r, rfl⟩ := Int.eq_ofNat_of_zero_le (show 0 ≤ hi by omega)
  simp only [Int.toNat_natCast]
  have hlr : l ≤ r := by omega
  have hr : r ≤ xs.length := by omega
  have hsub : subL xs l r = (xs.drop l).take (r - l) := by simp only [subL, Int.toNat_natCast]; congr 1; omega
  have hlen : (subL xs (l : Int) (r : Int)).length = r - l := by rw [hsub, List.length_take, List.length_drop]; omega
  refine ⟨_, cap - l, by rw [hlen], by rw [hlen]; omega, ?_⟩
  by_cases he : r = l
  · left
    rw [hsub, he]
    simp
  · right
    rcases h with h | ⟨b, off, vs, fs, rfl, k1, k2, k3⟩
    · rw [h] at hr; simp at hr; omega
    · have hx : xs = xs.take l ++ ((xs.drop l).take (r - l) ++ (xs.drop l).drop (r - l)) := by rw [List.take_append_drop, List.take_append_drop]
      rw [hx] at k2
      obtain ⟨u1, u2, f1, f2, rfl, rfl, c1, c2⟩ := Cat.split k2
      obtain ⟨u2, u3, f2, f3, rfl, rfl, c2, c3⟩ := Cat.split c2
      have hl1 : u1.length = l * e.size := by rw [Cat.len (fun _ _ _ h => Has.len h) c1, List.length_take, Nat.min_eq_left (by omega)]
      have hcell := (CellsAt.append.1 (CellsAt.append.1 k1).2).1
      rw [hl1] at hcell
      refine ⟨b, off + l * e.size, u2, f2, ?_, hcell, by rw [hsub]; exact c2, k3⟩
      rw [if_neg (by omega)]
      simp only [Option.map_some, Addr.add]
      split
      · rename_i h; simp [h]
      · rfl

/-- What a reference to a row finds. -/
theorem rowAt_sound {F : Fx} {σ : St} {a : Act} {w : World} {g : Gh} {H : Nat → RE} {d : Option Nat} (r : Rl F σ a w g) (hH : HOk H σ.h d) {id inc ver : Nat} {p : Path} {R : Row1} (h : rowAt H id inc ver p = some R) :
    H id = σ.h id ∧ (σ.h id).inc = inc ∧ (p = [] ∨ (ver = (σ.h id).ver ∧ R.d = true)) ∧ ∃ e0 xs0, (σ.h id).c = .row R.d e0 xs0 ∧ getRow e0 xs0 p = some ⟨R.e, R.xs⟩ := by
  unfold rowAt at h
  cases hr : H id with
  | mk i v c =>
    rw [hr] at h
    simp only at h
    cases hi : Nat.beq i inc with
    | false => rw [hi] at h; cases h
    | true =>
      rw [hi] at h
      simp only [cond_true] at h
      have hi := Nat.eq_of_beq_eq_true hi
      subst hi
      cases c with
      | none => cases h
      | var cs => cases h
      | map k e xs => cases h
      | hole e xs i off => cases h
      | loan => cases h
      | row d' e xs =>
        have hHr := hH.c id (by rw [hr]; simp)
        rw [hr] at hHr
        refine ⟨by rw [← hHr], by rw [← hHr], ?_⟩
        cases p with
        | nil =>
          simp only [Option.some.injEq] at h
          subst h
          exact ⟨.inl rfl, e, xs, by rw [← hHr], rfl⟩
        | cons q p =>
          simp only at h
          cases hb : (d' && Nat.beq v ver) with
          | false => rw [hb] at h; cases h
          | true =>
            rw [hb] at h
            simp only [cond_true] at h
            rw [Bool.and_eq_true] at hb
            obtain ⟨hd, hv⟩ := hb
            have hv := Nat.eq_of_beq_eq_true hv
            split at h
            · rename_i e' ys hg
              simp only [Option.some.injEq] at h
              subst h
              exact ⟨.inr ⟨by rw [← hHr]; exact hv.symm, hd⟩, e, xs, by rw [← hHr], hg⟩
            · cases h

theorem Rl.row {F : Fx} {σ : St} {a : Act} {w : World} {g : Gh} {H : Nat → RE} {d : Option Nat} (r : Rl F σ a w g) (hH : HOk H σ.h d) {id inc ver : Nat} {p : Path} {R : Row1} (h : rowAt H id inc ver p = some R)
    {u : Value} (hat : ∀ d e xs, (σ.h id).c = .row d e xs → RowAt w e (g.loc id) p u) :
    ∃ f1 fm f2, g.fp id = f1 ++ (fm ++ f2) ∧ Row g.Z w R.d R.e R.xs u fm ∧ (p = [] → f1 = [] ∧ f2 = []) := by
  obtain ⟨h1, h2, h3, e0, xs0, h4, h5⟩ := rowAt_sound r hH h
  have hrr := r.rt id
  unfold RR at hrr
  rw [h4] at hrr
  simp only at hrr
  rcases h3 with rfl | ⟨hv, hd⟩
  · simp only [getRow, Option.some.injEq] at h5
    have := hat _ _ _ h4
    simp only [RowAt] at this
    subst this
    cases R
    simp only at h5 hrr
    cases h5
    exact ⟨[], g.fp id, [], by simp, hrr, fun _ => ⟨rfl, rfl⟩⟩
  · obtain ⟨f1, fm, f2, k1, k2, _⟩ := RowOwn.focus (p := p) (.inl hd) hrr (hat _ _ _ h4) h5
    by_cases hp : p = []
    · subst hp
      simp only [getRow, Option.some.injEq] at h5
      have := hat _ _ _ h4
      simp only [RowAt] at this
      subst this
      cases R
      simp only at h5 hrr
      cases h5
      exact ⟨[], g.fp id, [], by simp, hrr, fun _ => ⟨rfl, rfl⟩⟩
    · exact ⟨f1, fm, f2, k1, k2, fun h => absurd h hp⟩

theorem castL_id {e : CK} (xs : List e.den) (h : e = e) : castL h xs = xs := rfl

theorem Row1.as_some {R : Row1} {e : CK} {xs : List e.den} (h : R.as e = some xs) : ∃ d ys, R = ⟨d, e, ys⟩ ∧ xs = ys := by
  cases R with
  | mk d e' ys =>
    simp only [Row1.as] at h
    split at h
    · rename_i he
      subst he
      simp only [Option.some.injEq, castL_id] at h
      exact ⟨d, ys, rfl, h.symm⟩
    · cases h

/-- Whatever is gathered reads, as shared, in the blocks of the roots that it names. -/
theorem slOf_shared {F : Fx} {σ : St} {a : Act} {w : World} {g : Gh} {H : Nat → RE} {d : Option Nat} (r : Rl F σ a w g) (hH : HOk H σ.h d) {m : Tk} {v : CV} {e : CK} {xs : List e.den} {ids : List Nat} (h : slOf H m v e = some (xs, ids))
    {u : Value} (hu : CVr g w σ.h v u) {Z' : Nat → Prop} (hZ : ∀ b, g.Z b → Z' b) (hf : ∀ id ∈ ids, ∀ b ∈ g.fp id, Z' b) : Has Z' w false (.sl e) xs [u] [] := by
  cases v with
  | nil =>
    simp only [slOf, Option.some.injEq, Prod.mk.injEq] at h
    obtain ⟨rfl, rfl⟩ := h
    have hu : u = .slice none 0 0 := hu
    subst hu
    exact ⟨_, rfl, .inr ⟨rfl, rfl, none, 0, rfl, Nat.le_refl _, .inl rfl⟩⟩
  | sl e' ys =>
    have key : (if h : e' = e then some (castL h ys, ([] : List Nat)) else none) = some (xs, ids) → Has Z' w false (.sl e) xs [u] [] := by
      intro h
      split at h
      · rename_i he
        subst he
        simp only [Option.some.injEq, Prod.mk.injEq, castL_id] at h
        obtain ⟨rfl, rfl⟩ := h
        exact Has.frame (fun _ _ => rfl) hZ (w' := w) hu (by simp)
      · cases h
    cases m <;> simp only [slOf] at h
    · cases h
    · exact key h
    · exact key h
    · cases h
  | row id inc ver p =>
    simp only [slOf] at h
    split at h
    · rename_i R hR
      split at h
      · rename_i ys hy
        obtain ⟨k1, k2, k3, e0, xs0, k4, _⟩ := rowAt_sound r hH hR
        have hids : xs = ys ∧ ids = [id] := by
          cases m <;> simp only at h
          · cases p with
            | nil => simp only at h; cases hb : (R.d || e.flat) <;> rw [hb] at h <;> simp at h; exact ⟨h.1.symm, h.2.symm⟩
            | cons => simp at h
          · cases p with
            | nil => simp at h; exact ⟨h.1.symm, h.2.symm⟩
            | cons => simp at h
          · simp at h; exact ⟨h.1.symm, h.2.symm⟩
          · cases hb : (R.d || e.flat) <;> rw [hb] at h <;> simp at h; exact ⟨h.1.symm, h.2.symm⟩
        obtain ⟨rfl, rfl⟩ := hids
        obtain ⟨d', zs, rfl, rfl⟩ := Row1.as_some hy
        obtain ⟨f1, fm, f2, m1, m2, _⟩ := r.row hH hR (u := u) (fun dd ee xx hc => hu.2 dd ee (by rw [hc]; rfl) ⟨k2.symm, by rw [k4] at hc; cases hc; exact k3⟩)
        exact ⟨u, rfl, .inr ⟨rfl, rfl, Row.share m2 hZ (fun b hb => hf id (by simp) b (by rw [m1]; simp [hb]))⟩⟩
      · cases h
    · cases h
  | rsub id inc ver p lo hi =>
    simp only [slOf] at h
    split at h
    · rename_i R hR
      split at h
      · rename_i ys hy
        have hids : xs = subL ys lo hi ∧ ids = [id] := by
          cases m <;> simp only at h
          · cases p with
            | nil => simp only at h; cases hb : e.flat <;> rw [hb] at h <;> simp at h; exact ⟨h.1.symm, h.2.symm⟩
            | cons => simp at h
          · cases p with
            | nil => simp only at h; cases hb : e.flat <;> rw [hb] at h <;> simp at h; exact ⟨h.1.symm, h.2.symm⟩
            | cons => simp at h
          · simp at h; exact ⟨h.1.symm, h.2.symm⟩
          · cases h
        obtain ⟨rfl, rfl⟩ := hids
        obtain ⟨k1, k2, k3, e0, xs0, k4, k5⟩ := rowAt_sound r hH hR
        obtain ⟨v', e', n1, n2, n3⟩ := hu.2 _ _ (by rw [k4]; rfl) ⟨k2.symm, k3⟩
        rw [kindRow_of_get k5] at n1
        simp only [Option.some.injEq] at n1
        subst n1
        obtain ⟨d', zs, rfl, rfl⟩ := Row1.as_some hy
        obtain ⟨f1, fm, f2, m1, m2, _⟩ := r.row hH hR (u := v') (fun dd ee xx hc => by rw [k4] at hc; cases hc; exact n2)
        have hsh := Row.share m2 hZ (fun b hb => hf id (by simp) b (by rw [m1]; simp [hb]))
        exact ⟨u, rfl, .inr ⟨rfl, rfl, hsh.sub n3⟩⟩
      · cases h
    · cases h
  | undef | int | bool | str | rp | fn | vptr | ptr | map => simp [slOf] at h

theorem Row.deep_of_flat {Z : Nat → Prop} {w : World} {d d' : Bool} {e : CK} (he : e.flat = true) {xs : List e.den} {v : Value} {fp : List Nat} (h : Row Z w d e xs v fp) : Row Z w d' e xs v fp := by
  refine RowOwn.frame h (fun _ _ => rfl) fun x u f _ hx => ?_
  obtain ⟨rfl, k⟩ := Has.flat he hx
  exact k _ _ _

theorem OwnB.le {w : World} {b n m : Nat} (h : OwnB w b n) (hm : m ≤ n) : OwnB w b m := by
  obtain ⟨arr, ty, h1, h2⟩ := h
  exact ⟨arr, ty, h1, Nat.le_trans hm h2⟩

/-- A part of a row of flat elements, in its stead. -/
theorem Row.cut {Z : Nat → Prop} {w : World} {d : Bool} {e : CK} (he : e.flat = true) {xs : List e.den} {v u : Value} {fp : List Nat} {lo hi : Int} (h : Row Z w d e xs v fp) (hs : SubV e.size v lo hi u) :
    Row Z w d e (subL xs lo hi) u fp := by
  obtain ⟨h0, h1, A, len, cap, hv, h2, rfl⟩ := hs
  obtain ⟨A', cap', hv', hc, h⟩ := h
  rw [hv'] at hv
  cases hv
  obtain ⟨l, rfl⟩ := Int.eq_ofNat_of_zero_le h0
  obtain ⟨r, rfl⟩ := Int.eq_ofNat_of_zero_le (show 0 ≤ hi by omega)
  simp only [Int.toNat_natCast]
  have hlr : l ≤ r := by omega
  have hr : r ≤ xs.length := by omega
  have hsub : subL xs l r = (xs.drop l).take (r - l) := by simp only [subL, Int.toNat_natCast]; congr 1; omega
  have hlen : (subL xs (l : Int) (r : Int)).length = r - l := by rw [hsub, List.length_take, List.length_drop]; omega
  refine ⟨_, cap - l, by rw [hlen], by rw [hlen]; omega, ?_⟩
  rcases h with ⟨hx, hfp, hA, hcap⟩ | ⟨b, off, vs, fs, rfl, k1, k2, k3, k4⟩
  · left
    rw [hx] at hr
    simp only [List.length_nil, Nat.le_zero_eq] at hr
    have hl0 : l = 0 := by omega
    refine ⟨by rw [hx]; simp [subL], hfp, ?_, by omega⟩
    rw [hA]
    split <;> rfl
  · right
    have hfs : fs = [] := by
      have := Cat.fp_mem (B := fun _ => False) (fun x u f hx b hb => by rw [(Has.flat he hx).1] at hb; simp at hb) k2
      cases fs with
      | nil => rfl
      | cons a l => exact (this a (by simp)).elim
    subst hfs
    by_cases hcl : cap = l
    · have hrl : r = l := by omega
      refine ⟨b, off, [], [], by rw [if_pos hcl], CellsAt.nil _ _ _, ?_, k3, k4.le ?_⟩
      · rw [hsub, hrl]; simp [Cat]
      · rw [hcl]; simp
    · have hx : xs = xs.take l ++ ((xs.drop l).take (r - l) ++ (xs.drop l).drop (r - l)) := by rw [List.take_append_drop, List.take_append_drop]
      rw [hx] at k2
      obtain ⟨u1, u2, f1, f2, rfl, e1, c1, c2⟩ := Cat.split k2
      obtain ⟨u2, u3, f2, f3, rfl, rfl, c2, c3⟩ := Cat.split c2
      have hf2 : f2 = [] := by
        cases f2 with
        | nil => rfl
        | cons a l => simp at e1
      subst hf2
      have hl1 : u1.length = l * e.size := by rw [Cat.len (fun _ _ _ h => Has.len h) c1, List.length_take, Nat.min_eq_left (by omega)]
      have hcell := (CellsAt.append.1 (CellsAt.append.1 k1).2).1
      rw [hl1] at hcell
      refine ⟨b, off + l * e.size, u2, [], ?_, hcell, by rw [hsub]; exact c2, k3, k4.le ?_⟩
      · rw [if_neg hcl]
        simp only [Option.map_some, Addr.add]
        split
        · rename_i h; simp [h]
        · rfl
      · rw [Nat.add_assoc, ← Nat.add_mul]
        exact Nat.add_le_add_left (Nat.mul_le_mul_right _ (by omega)) _

/-- What is taken is owned. -/
theorem slOf_deep {F : Fx} {σ : St} {a : Act} {w : World} {g : Gh} {H : Nat → RE} {d : Option Nat} (r : Rl F σ a w g) (hH : HOk H σ.h d) {v : CV} {e : CK} {xs : List e.den} {ids : List Nat} (h : slOf H .deep v e = some (xs, ids))
    {u : Value} (hu : CVr g w σ.h v u) : Has g.Z w true (.sl e) xs [u] (ids.flatMap g.fp) := by
  cases v with
  | nil =>
    simp only [slOf, Option.some.injEq, Prod.mk.injEq] at h
    obtain ⟨rfl, rfl⟩ := h
    have hu : u = .slice none 0 0 := hu
    subst hu
    exact ⟨_, rfl, .inl ⟨rfl, none, 0, rfl, Nat.le_refl _, .inl ⟨rfl, rfl, rfl, rfl⟩⟩⟩
  | row id inc ver p =>
    simp only [slOf] at h
    split at h
    · rename_i R hR
      split at h
      · rename_i ys hy
        obtain ⟨k1, k2, k3, _⟩ := rowAt_sound r hH hR
        cases p with
        | cons => simp at h
        | nil =>
          simp only at h
          cases hb : (R.d || e.flat) <;> rw [hb] at h <;> simp at h
          obtain ⟨rfl, rfl⟩ := h
          obtain ⟨d', zs, rfl, rfl⟩ := Row1.as_some hy
          obtain ⟨f1, fm, f2, m1, m2, m3⟩ := r.row hH hR (u := u) (fun dd ee xx hc => hu.2 dd ee (by rw [hc]; rfl) ⟨k2.symm, .inl rfl⟩)
          obtain ⟨rfl, rfl⟩ := m3 rfl
          simp only [List.nil_append, List.append_nil] at m1
          rw [List.flatMap_cons, List.flatMap_nil, List.append_nil, m1]
          refine ⟨u, rfl, .inl ⟨rfl, ?_⟩⟩
          rw [Bool.or_eq_true] at hb
          rcases hb with hb | hb
          · simp only at hb
            subst hb
            exact m2
          · exact Row.deep_of_flat hb m2
      · cases h
    · cases h
  | rsub id inc ver p lo hi =>
    simp only [slOf] at h
    split at h
    · rename_i R hR
      split at h
      · rename_i ys hy
        obtain ⟨k1, k2, k3, e0, xs0, k4, k5⟩ := rowAt_sound r hH hR
        cases p with
        | cons => simp at h
        | nil =>
          simp only at h
          cases hb : e.flat <;> rw [hb] at h <;> simp at h
          obtain ⟨rfl, rfl⟩ := h
          obtain ⟨v', e', n1, n2, n3⟩ := hu.2 _ _ (by rw [k4]; rfl) ⟨k2.symm, .inl rfl⟩
          rw [kindRow_of_get k5] at n1
          simp only [Option.some.injEq] at n1
          subst n1
          obtain ⟨d', zs, rfl, rfl⟩ := Row1.as_some hy
          obtain ⟨f1, fm, f2, m1, m2, m3⟩ := r.row hH hR (u := v') (fun dd ee xx hc => by rw [k4] at hc; cases hc; exact n2)
          obtain ⟨rfl, rfl⟩ := m3 rfl
          simp only [List.nil_append, List.append_nil] at m1
          rw [List.flatMap_cons, List.flatMap_nil, List.append_nil, m1]
          exact ⟨u, rfl, .inl ⟨rfl, (Row.deep_of_flat hb m2).cut hb n3⟩⟩
      · cases h
    · cases h
  | sl => simp [slOf] at h
  | undef | int | bool | str | rp | fn | vptr | ptr | map => simp [slOf] at h

/-! ### whole values -/
theorem gath_shared {F : Fx} {σ : St} {a : Act} {w : World} {g : Gh} {H : Nat → RE} {d : Option Nat} (r : Rl F σ a w g) (hH : HOk H σ.h d) {m : Tk} {Z' : Nat → Prop} (hZ : ∀ b, g.Z b → Z' b) :
    ∀ {c : CK} {cs : List CV} {x : c.den} {ids : List Nat} {rest : List CV}, gath H m c cs = some (x, ids, rest) → ∀ {us : List Value}, All2 (CVr g w σ.h) cs us →
      (∀ id ∈ ids, ∀ b ∈ g.fp id, Z' b) → ∃ u1 u2, us = u1 ++ u2 ∧ Has Z' w false c x u1 [] ∧ All2 (CVr g w σ.h) rest u2
  | .int k, cs, x, ids, rest, h, us, hu, hf => by
    cases cs with
    | nil => simp [gath] at h
    | cons v r' =>
      cases v <;> simp only [gath] at h <;> try cases h
      split at h <;> try cases h
      rename_i hk
      subst hk
      match us, hu with
      | u :: us, ⟨h1, h2⟩ => exact ⟨[u], us, rfl, ⟨by rw [show u = _ from h1], rfl⟩, h2⟩
  | .bool, cs, x, ids, rest, h, us, hu, hf => by
    cases cs with
    | nil => simp [gath] at h
    | cons v r' =>
      cases v <;> simp only [gath] at h <;> try cases h
      match us, hu with
      | u :: us, ⟨h1, h2⟩ => exact ⟨[u], us, rfl, ⟨by rw [show u = _ from h1], rfl⟩, h2⟩
  | .str, cs, x, ids, rest, h, us, hu, hf => by
    cases cs with
    | nil => simp [gath] at h
    | cons v r' =>
      cases v <;> simp only [gath] at h <;> try cases h
      match us, hu with
      | u :: us, ⟨h1, h2⟩ => exact ⟨[u], us, rfl, ⟨by rw [show u = _ from h1], rfl⟩, h2⟩
  | .unit, cs, x, ids, rest, h, us, hu, hf => by
    cases cs <;> (simp only [gath, Option.some.injEq, Prod.mk.injEq] at h; obtain ⟨_, _, rfl⟩ := h; exact ⟨[], us, rfl, ⟨rfl, rfl⟩, hu⟩)
  | .sl e, cs, x, ids, rest, h, us, hu, hf => by
    cases cs with
    | nil => simp [gath] at h
    | cons v r' =>
    have h' : (match slOf H m v e with | some (xs, ids) => some (xs, ids, r') | none => none) = some (x, ids, rest) := h
    clear h
    cases hs : slOf H m v e with
    | none => rw [hs] at h'; cases h'
    | some q =>
      rw [hs] at h'
      obtain ⟨xs, ids'⟩ := q
      simp only [Option.some.injEq, Prod.mk.injEq] at h'
      obtain ⟨rfl, rfl, rfl⟩ := h'
      match us, hu with
      | u :: us, ⟨h1, h2⟩ => exact ⟨[u], us, rfl, slOf_shared r hH hs h1 hZ hf, h2⟩
  | .pair p q, cs, x, ids, rest, h, us, hu, hf => by
    have h' : (match gath H m p cs with
      | some (x, i1, r1) => match gath H m q r1 with
        | some (y, i2, r2) => some ((x, y), i1 ++ i2, r2)
        | none => none
      | none => none) = some (x, ids, rest) := by
        cases cs <;> exact h
    clear h
    split at h' <;> try cases h'
    rename_i y i1 r1 hp
    split at h' <;> try cases h'
    rename_i z i2 r2 hq
    obtain ⟨u1, u2, rfl, a1, a2⟩ := gath_shared r hH hZ hp hu (fun id hid => hf id (by simp [hid]))
    obtain ⟨u2, u3, rfl, b1, b2⟩ := gath_shared r hH hZ hq a2 (fun id hid => hf id (by simp [hid]))
    exact ⟨u1 ++ u2, u3, by simp, ⟨u1, u2, [], [], rfl, rfl, a1, b1⟩, b2⟩

theorem gath_deep {F : Fx} {σ : St} {a : Act} {w : World} {g : Gh} {H : Nat → RE} {d : Option Nat} (r : Rl F σ a w g) (hH : HOk H σ.h d) :
    ∀ {c : CK} {cs : List CV} {x : c.den} {ids : List Nat} {rest : List CV}, gath H .deep c cs = some (x, ids, rest) → ∀ {us : List Value}, All2 (CVr g w σ.h) cs us →
      ∃ u1 u2, us = u1 ++ u2 ∧ Has g.Z w true c x u1 (ids.flatMap g.fp) ∧ All2 (CVr g w σ.h) rest u2
  | .int k, cs, x, ids, rest, h, us, hu => by
    cases cs with
    | nil => simp [gath] at h
    | cons v r' =>
      cases v <;> simp only [gath] at h <;> try cases h
      split at h <;> try cases h
      rename_i hk
      subst hk
      match us, hu with
      | u :: us, ⟨h1, h2⟩ => exact ⟨[u], us, rfl, ⟨by rw [show u = _ from h1], rfl⟩, h2⟩
  | .bool, cs, x, ids, rest, h, us, hu => by
    cases cs with
    | nil => simp [gath] at h
    | cons v r' =>
      cases v <;> simp only [gath] at h <;> try cases h
      match us, hu with
      | u :: us, ⟨h1, h2⟩ => exact ⟨[u], us, rfl, ⟨by rw [show u = _ from h1], rfl⟩, h2⟩
  | .str, cs, x, ids, rest, h, us, hu => by
    cases cs with
    | nil => simp [gath] at h
    | cons v r' =>
      cases v <;> simp only [gath] at h <;> try cases h
      match us, hu with
      | u :: us, ⟨h1, h2⟩ => exact ⟨[u], us, rfl, ⟨by rw [show u = _ from h1], rfl⟩, h2⟩
  | .unit, cs, x, ids, rest, h, us, hu => by
    cases cs <;> (simp only [gath, Option.some.injEq, Prod.mk.injEq] at h; obtain ⟨_, rfl, rfl⟩ := h; exact ⟨[], us, rfl, ⟨rfl, rfl⟩, hu⟩)
  | .sl e, cs, x, ids, rest, h, us, hu => by
    cases cs with
    | nil => simp [gath] at h
    | cons v r' =>
    have h' : (match slOf H .deep v e with | some (xs, ids) => some (xs, ids, r') | none => none) = some (x, ids, rest) := h
    clear h
    cases hs : slOf H .deep v e with
    | none => rw [hs] at h'; cases h'
    | some q =>
      rw [hs] at h'
      obtain ⟨xs, ids'⟩ := q
      simp only [Option.some.injEq, Prod.mk.injEq] at h'
      obtain ⟨rfl, rfl, rfl⟩ := h'
      match us, hu with
      | u :: us, ⟨h1, h2⟩ => exact ⟨[u], us, rfl, slOf_deep r hH hs h1, h2⟩
  | .pair p q, cs, x, ids, rest, h, us, hu => by
    have h' : (match gath H .deep p cs with
      | some (x, i1, r1) => match gath H .deep q r1 with
        | some (y, i2, r2) => some ((x, y), i1 ++ i2, r2)
        | none => none
      | none => none) = some (x, ids, rest) := by
        cases cs <;> exact h
    clear h
    split at h' <;> try cases h'
    rename_i y i1 r1 hp
    split at h' <;> try cases h'
    rename_i z i2 r2 hq
    obtain ⟨u1, u2, rfl, a1, a2⟩ := gath_deep r hH hp hu
    obtain ⟨u2, u3, rfl, b1, b2⟩ := gath_deep r hH hq a2
    exact ⟨u1 ++ u2, u3, by simp, ⟨u1, u2, _, _, rfl, by simp, a1, b1⟩, b2⟩
end VM
