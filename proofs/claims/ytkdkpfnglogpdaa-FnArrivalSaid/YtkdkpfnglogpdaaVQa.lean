/- What the functions of FirmDealings compute. -/
import Derived.Test.YtkdkpfnglogpdaaFVa
import Derived.Test.YtkdkpfnglogpdaaVG3
set_option linter.unusedVariables false
set_option linter.unusedSimpArgs false
namespace VM
open Go
abbrev D4 := Int × Int × Int × Int × Unit

def inB (a b c : Int) : Bool := decide (b ≤ a) && decide (a ≤ c)
theorem l1In_eq (k : Nat) (a b c : Int) : VF.spec_l1In k a b c = some ((inB a b c, ()), ()) := by
  unfold VF.spec_l1In inB
  cases decide (b ≤ a) <;> rfl
theorem in_eq (k : Nat) (a b c : Int) : VF.impl_in k a b c = some ((inB a b c, ()), ()) := by
  unfold VF.impl_in inB
  cases decide (b ≤ a) <;> rfl

def okDl (f : Int) (d : D4) : Bool := inB d.1 0 (f - 1) && inB d.2.1 0 (f - 1) && !decide (d.1 = d.2.1) && inB d.2.2.1 0 100000 && inB d.2.2.2.1 0 d.2.2.1
def areDl (l : List D4) (f : Int) : Bool := inB f 0 6 && (decide (l.length ≤ 20) && l.all (okDl f))

theorem wnext {n : Nat} (h : n < 1099511627776) : IntKind.wrap .i64 ((n : Int) + 1) = ((n + 1 : Nat) : Int) := by rw [w64 (by omega) (by omega)]; rfl

theorem spec_AreDealings_eq {k : Nat} {l : List D4} {f : Int} (hk : l.length < k) (hl : l.length < 1099511627776) : VF.spec_AreDealings k l f = some ((areDl l f, ()), ()) := by
  unfold VF.spec_AreDealings
  simp only [l1In_eq, bnd_some']
  cases hf : inB f 0 6 with
  | false => simp [areDl, hf]
  | true =>
    have hf' : 0 ≤ f ∧ f ≤ 6 := by simpa [inB] using hf
    simp only [Bool.not_true, sel_false, join_eq]
    have := iter_all (s := VF.spec_AreDealings.l2 k l f (VF.spec_AreDealings.j0 l)) (fun n => (n : Int)) l (okDl f) (some ((false, ()), ())) (some ((decide (l.length ≤ 20), ()), ()))
      (fun ih pre x post hx => by
        have hp : pre.length < 1099511627776 := by rw [hx] at hl; simp at hl; omega
        subst hx
        have hw : IntKind.wrap .i64 (f - 1) = f - 1 := w64 (by omega) (by omega)
        simp only [VF.spec_AreDealings.l2, VF.spec_AreDealings.j1, lt_mid, sel_true, join_eq, inb_mid, grd_true, l1In_eq, bnd_some', rdL_mid, hw, wnext hp, okDl]
        cases inB x.1 0 (f - 1) <;> cases inB x.2.1 0 (f - 1) <;> cases decide (x.1 = x.2.1) <;> cases inB x.2.2.1 0 100000 <;> cases inB x.2.2.2.1 0 x.2.2.1 <;> rfl)
      (fun ih => by
        have h1 : decide (((l.length : Nat) : Int) ≤ 20) = decide (l.length ≤ 20) := by by_cases h : l.length ≤ 20 <;> simp [h] <;> omega
        simp [VF.spec_AreDealings.l2, VF.spec_AreDealings.j0, h1])
      hk
    rw [show ((0 : Nat) : Int) = 0 from rfl] at this
    rw [this]
    simp only [areDl, hf, Bool.true_and]
    cases List.all l (okDl f) <;> simp

theorem impl_AreDealings_eq {k : Nat} {l : List D4} {f : Int} (hk : l.length < k) (hl : l.length < 1099511627776) : VF.impl_AreDealings k l f = some ((areDl l f, ()), ()) := by
  unfold VF.impl_AreDealings
  simp only [in_eq, bnd_some', join_eq]
  cases hf : inB f 0 6 with
  | false => simp [areDl, hf]
  | true =>
    have hf' : 0 ≤ f ∧ f ≤ 6 := by simpa [inB] using hf
    simp only [Bool.not_true, sel_false]
    by_cases h20 : l.length ≤ 20
    · have h20' : decide ((20 : Int) < (l.length : Int)) = false := by simp; omega
      simp only [h20', sel_false, VF.impl_AreDealings.j3, join_eq]
      have := iter_all (s := VF.impl_AreDealings.l2 k f VF.impl_AreDealings.j0) (fun n => (l, (l.length : Int), (n : Int))) l (okDl f) (some ((false, ()), ())) (some ((true, ()), ()))
        (fun ih pre x post hx => by
          have hp : pre.length < 1099511627776 := by rw [hx] at hl; simp at hl; omega
          have hw : IntKind.wrap .i64 (f - 1) = f - 1 := w64 (by omega) (by omega)
          rw [hx]
          simp only [VF.impl_AreDealings.l2, VF.impl_AreDealings.j1, lt_mid, sel_true, join_eq, inb_mid, grd_true, in_eq, bnd_some', rdL_mid, hw, wnext hp, okDl]
          cases inB x.1 0 (f - 1) <;> cases inB x.2.1 0 (f - 1) <;> cases decide (x.1 = x.2.1) <;> cases inB x.2.2.1 0 100000 <;> cases inB x.2.2.2.1 0 x.2.2.1 <;> rfl)
        (fun ih => by
          simp [VF.impl_AreDealings.l2, VF.impl_AreDealings.j0])
        hk
      rw [show ((0 : Nat) : Int) = 0 from rfl] at this
      rw [this]
      simp only [areDl, hf, Bool.true_and, h20, decide_true]
      cases List.all l (okDl f) <;> simp
    · have h20' : decide ((20 : Int) < (l.length : Int)) = true := by simp; omega
      simp [areDl, h20, h20']

theorem eqEntry_eq (k : Nat) (a b : Ent) : VF.laws_eqEntry k a b = some ((decide (a = b), ()), ()) := by
  obtain ⟨a1, a2, ⟨⟩⟩ := a
  obtain ⟨b1, b2, ⟨⟩⟩ := b
  unfold VF.laws_eqEntry
  by_cases h1 : a1 = b1 <;> by_cases h2 : a2 = b2 <;> simp [h1, h2]
theorem eqDealing_eq (k : Nat) (a b : D4) : VF.laws_eqDealing k a b = some ((decide (a = b), ()), ()) := by
  obtain ⟨a1, a2, a3, a4, ⟨⟩⟩ := a
  obtain ⟨b1, b2, b3, b4, ⟨⟩⟩ := b
  unfold VF.laws_eqDealing
  by_cases h1 : a1 = b1 <;> by_cases h2 : a2 = b2 <;> by_cases h3 : a3 = b3 <;> by_cases h4 : a4 = b4 <;> simp [h1, h2, h3, h4]

/-- Two lists, element by element. -/
theorem iter_eq {X : Type} [DecidableEq X] {s : (Int → Option ((Bool × Unit) × PUnit)) → Int → Option ((Bool × Unit) × PUnit)} (xs ys : List X) (hl : xs.length = ys.length)
    (hstep : ∀ ih (pre : List X) (x : X) (post : List X) (pre' : List X) (y : X) (post' : List X), xs = pre ++ x :: post → ys = pre' ++ y :: post' → pre'.length = pre.length →
      s ih (pre.length : Int) = sel (decide (x = y)) (ih ((pre.length + 1 : Nat) : Int)) (some ((false, ()), ())))
    (hend : ∀ ih, s ih (xs.length : Int) = some ((true, ()), ())) {k : Nat} (hk : xs.length < k) : iter s k 0 = some ((decide (xs = ys), ()), ()) := by
  have := iter_all (X := X × X) (s := s) (fun n => (n : Int)) (xs.zip ys) (fun p => decide (p.1 = p.2)) (some ((false, ()), ())) (some ((true, ()), ()))
    (fun ih pre p post hx => by
      obtain ⟨x, y⟩ := p
      have hlen : pre.length < xs.length := by
        have := congrArg List.length hx
        simp [hl] at this
        omega
      have hx1 : xs = (xs.zip ys).map Prod.fst := by rw [List.map_fst_zip]; omega
      have hy1 : ys = (xs.zip ys).map Prod.snd := by rw [List.map_snd_zip]; omega
      have e1 : xs = pre.map Prod.fst ++ x :: post.map Prod.fst := by rw [hx1, hx]; simp
      have e2 : ys = pre.map Prod.snd ++ y :: post.map Prod.snd := by rw [hy1, hx]; simp
      have := hstep ih _ x _ _ y _ e1 e2 (by simp)
      simpa using this)
    (fun ih => by
      have : (xs.zip ys).length = xs.length := by simp [hl]
      rw [this]
      exact hend ih)
    (k := k) (by simp; omega)
  rw [show ((0 : Nat) : Int) = 0 from rfl] at this
  rw [this]
  have key : ∀ (xs ys : List X), xs.length = ys.length → ((xs.zip ys).all fun p => decide (p.1 = p.2)) = decide (xs = ys) := by
    intro xs
    induction xs with
    | nil => intro ys h; cases ys with
      | nil => rfl
      | cons => simp at h
    | cons x xs ih =>
      intro ys h
      cases ys with
      | nil => simp at h
      | cons y ys =>
        simp only [List.zip_cons_cons, List.all_cons, ih ys (by simpa using h)]
        by_cases h1 : x = y <;> by_cases h2 : xs = ys <;> simp [h1, h2]
  rw [key xs ys hl]
  cases decide (xs = ys) <;> rfl

theorem eqEntryS_eq {k : Nat} {a b : List Ent} (hk : a.length < k) (hl : a.length < 1099511627776) : VF.laws_eqEntryS k a b = some ((decide (a = b), ()), ()) := by
  unfold VF.laws_eqEntryS
  by_cases h : a.length = b.length
  · have h' : decide ((a.length : Int) = (b.length : Int)) = true := by simp [h]
    simp only [h', Bool.not_true, sel_false, join_eq]
    refine iter_eq a b h (fun ih pre x post pre' y post' hx hy hp => ?_) (fun ih => by simp [VF.laws_eqEntryS.l1, VF.laws_eqEntryS.j0]) hk
    have hpl : pre.length < 1099511627776 := by rw [hx] at hl; simp at hl; omega
    have i1 : inb b (pre.length : Int) = true := by rw [hy, ← hp]; exact inb_mid _ _ _
    have i2 : rdL b (pre.length : Int) ([], 0, ()) = y := by rw [hy, ← hp]; exact rdL_mid _ _ _ _
    rw [hx]
    simp only [VF.laws_eqEntryS.l1, lt_mid, sel_true, inb_mid, grd_true, i1, i2, rdL_mid, eqEntry_eq, bnd_some', wnext hpl]
    cases decide (x = y) <;> rfl
  · have h' : decide ((a.length : Int) = (b.length : Int)) = false := by simp; omega
    have h2 : a ≠ b := fun e => h (by rw [e])
    simp [h', h2]
theorem eqDealingS_eq {k : Nat} {a b : List D4} (hk : a.length < k) (hl : a.length < 1099511627776) : VF.laws_eqDealingS k a b = some ((decide (a = b), ()), ()) := by
  unfold VF.laws_eqDealingS
  by_cases h : a.length = b.length
  · have h' : decide ((a.length : Int) = (b.length : Int)) = true := by simp [h]
    simp only [h', Bool.not_true, sel_false, join_eq]
    refine iter_eq a b h (fun ih pre x post pre' y post' hx hy hp => ?_) (fun ih => by simp [VF.laws_eqDealingS.l1, VF.laws_eqDealingS.j0]) hk
    have hpl : pre.length < 1099511627776 := by rw [hx] at hl; simp at hl; omega
    have i1 : inb b (pre.length : Int) = true := by rw [hy, ← hp]; exact inb_mid _ _ _
    have i2 : rdL b (pre.length : Int) (0, 0, 0, 0, ()) = y := by rw [hy, ← hp]; exact rdL_mid _ _ _ _
    rw [hx]
    simp only [VF.laws_eqDealingS.l1, lt_mid, sel_true, inb_mid, grd_true, i1, i2, rdL_mid, eqDealing_eq, bnd_some', wnext hpl]
    cases decide (x = y) <;> rfl
  · have h' : decide ((a.length : Int) = (b.length : Int)) = false := by simp; omega
    have h2 : a ≠ b := fun e => h (by rw [e])
    simp [h', h2]

theorem toDealingS_eq {k : Nat} {a : List D4} (hk : a.length < k) (hl : a.length ≤ 1048576) : VF.laws_toDealingS k a = some ((a, ()), ()) := by
  unfold VF.laws_toDealingS
  have hf : (decide ((a.length : Int) = (a.length : Int)) && decide (0 ≤ (a.length : Int)) && fits (Int.toNat (a.length : Int)) 32) = true := by
    simp only [decide_true, Bool.true_and, Int.toNat_natCast, Bool.and_eq_true, decide_eq_true_eq]
    exact ⟨by omega, fits_of (by omega) (by omega)⟩
  rw [hf, grd_true, join_eq, Int.toNat_natCast]
  rw [iter_copy (s := VF.laws_toDealingS.l1 k a VF.laws_toDealingS.j0) (fun x => x) (0, 0, 0, 0, ()) VF.laws_toDealingS.j0 a ?_ ?_ hk]
  · simp [VF.laws_toDealingS.j0]
  · intro ih pre x post q y rest hx hq
    have hpl : pre.length < 1099511627776 := by rw [hx] at hl; simp at hl; omega
    have i1 : inb (q ++ y :: rest) (pre.length : Int) = true := by rw [← hq]; exact inb_mid _ _ _
    have i2 : ∀ z, wrL (q ++ y :: rest) (pre.length : Int) z = q ++ z :: rest := by intro z; rw [← hq]; exact wrL_mid _ _ _ _
    rw [hx]
    obtain ⟨x1, x2, x3, x4, ⟨⟩⟩ := x
    simp only [VF.laws_toDealingS.l1, lt_mid, sel_true, inb_mid, grd_true, i1, i2, rdL_mid, VF.laws_toDealing, bnd_some', wnext hpl]
  · intro ih q
    simp [VF.laws_toDealingS.l1]
end VM
