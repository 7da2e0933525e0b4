/- New roots; roots that are given up. -/
import Derived.Test.YtljofbhokcdklaaVMh
set_option linter.unusedVariables false
set_option linter.unusedSimpArgs false
namespace VM
open Go

theorem setH_cons (h : Nat → RE) (i : Nat) (r : RE) (l : List (Nat × RE)) (j : Nat) : setH h ((i, r) :: l) j = if j = i then r else setH h l j := by
  show (bif Nat.beq j i then r else setH h l j) = _
  by_cases e : j = i
  · subst e; simp
  · rw [if_neg e]
    cases hb : Nat.beq j i with
    | false => rfl
    | true => exact absurd (Nat.eq_of_beq_eq_true hb) e

theorem setH_dead (h H : Nat → RE) : ∀ (T : List Nat) (j : Nat), setH h (dead H T) j = if j ∈ T then ⟨(H j).inc + 1, 0, .none⟩ else h j
  | [], j => by simp [dead, setH]
  | t :: T, j => by
    rw [show dead H (t :: T) = (t, ⟨(H t).inc + 1, 0, .none⟩) :: dead H T from rfl, setH_cons, setH_dead h H T j]
    by_cases e : j = t
    · subst e; simp
    · simp [e]

theorem setH_append (h : Nat → RE) : ∀ (l m : List (Nat × RE)) (j : Nat), setH h (l ++ m) j = setH (setH h m) l j
  | [], m, j => rfl
  | (i, r) :: l, m, j => by rw [List.cons_append, setH_cons, setH_cons, setH_append h l m j]

theorem CK.lens_of_cell : ∀ {e : CK} {off : Nat} {e1 : CK}, e.cell off = some (.sl e1) → ∃ L, e.lens off (.sl e1) = some L
  | .pair a b, off, e1, h => by
    simp only [CK.cell] at h
    rw [CK.lens.eq_def]
    dsimp only
    rw [dif_neg (by rintro ⟨h, _⟩; cases h)]
    cases hb : Nat.blt off a.size with
    | true =>
      rw [hb] at h
      obtain ⟨L, hL⟩ := CK.lens_of_cell (e := a) h
      exact ⟨_, by rw [hL]; rfl⟩
    | false =>
      rw [hb] at h
      obtain ⟨L, hL⟩ := CK.lens_of_cell (e := b) h
      exact ⟨_, by rw [hL]; rfl⟩
  | .sl e, off, e1, h => by
    simp only [CK.cell] at h
    cases hb : Nat.beq off 0 with
    | false => rw [hb] at h; cases h
    | true =>
      rw [hb] at h
      have := Nat.eq_of_beq_eq_true hb
      subst this
      simp only [cond_true, Option.some.injEq] at h
      rw [CK.lens.eq_def]
      dsimp only
      rw [dif_pos ⟨h, rfl⟩]
      exact ⟨_, rfl⟩
  | .int k, off, e1, h => by simp only [CK.cell] at h; cases hb : Nat.beq off 0 <;> rw [hb] at h <;> cases h
  | .bool, off, e1, h => by simp only [CK.cell] at h; cases hb : Nat.beq off 0 <;> rw [hb] at h <;> cases h
  | .str, off, e1, h => by simp only [CK.cell] at h; cases hb : Nat.beq off 0 <;> rw [hb] at h <;> cases h
  | .unit, off, e1, h => by simp only [CK.cell] at h; cases hb : Nat.beq off 0 <;> rw [hb] at h <;> cases h

theorem RowAt.frame {Z : Nat → Prop} {w w' : World} : ∀ {p : Path} {e : CK} {xs : List e.den} {v u : Value} {fp : List Nat}, Row Z w true e xs v fp → (∀ b ∈ fp, w'.heap[b]? = w.heap[b]?) → RowAt w e v p u → RowAt w' e v p u
  | [], _, _, _, _, _, _, _, h => h
  | (i, off) :: p, e, xs, v, u, fp, hr, hb, h => by
    obtain ⟨b, o, len, cap, u1, e1, rfl, h0, h1, hc, hu, hat⟩ := h
    obtain ⟨L, hL⟩ := CK.lens_of_cell hc
    have hlen : len = xs.length := by
      obtain ⟨A, cap', hv, _⟩ := hr
      cases hv
      rfl
    subst hlen
    obtain ⟨b', o', cap', f1, fm, f2, um, hv, rfl, hown, hcap, hsz, hcells, hm, hset⟩ := RowOwn.elem hr h0 h1 hL
    cases hv
    obtain ⟨u', rfl, hm⟩ := hm
    rcases hm with ⟨_, hm⟩ | ⟨h, _⟩
    case inr => cases h
    have hu' := hcells 0 u' rfl
    rw [Nat.add_zero, hu] at hu'
    cases hu'
    refine ⟨b, o, xs.length, cap, u1, e1, rfl, h0, h1, hc, ?_, RowAt.frame hm (fun x hx => hb x (by simp [hx])) hat⟩
    rw [World.cell?_of_block (w := w) (a := ⟨b, _, none⟩) (hb b (by simp))]
    exact hu

section
variable {P : Program} {F : Fx} {σ : St} {a : Act} {w : World} {g : Gh}

/-- A root is made anew, some are given up; only blocks of those may have turned. -/
theorem Rl.make (r : Rl F σ a w g) {H : Nat → RE} {m : Nat} (hm : H m = σ.h m) (hm1 : ∀ p ∈ F.P0, p.1 ≠ m) {T : List Nat} (hT : ∀ id ∈ T, H id = σ.h id) {c : RC} {v : Value} {fp : List Nat} {w' : World} {Z' : Nat → Prop}
    (hZZ : ∀ b, g.Z b → Z' b) (hZT : ∀ b, Z' b → g.Z b ∨ ∃ id ∈ T, b ∈ g.fp id)
    (os : w'.os = w.os) (tp : w'.tape = w.tape) (ou : w'.output = w.output) (sz : w.heap.size ≤ w'.heap.size)
    (fr : ∀ b, b < w.heap.size → (∀ id ∈ T, b ∉ g.fp id) → w'.heap[b]? = w.heap[b]?)
    (hfp : fp.Nodup) (hnew : ∀ b ∈ fp, ¬ Z' b ∧ (w.heap.size ≤ b ∨ ∃ id ∈ T, b ∈ g.fp id))
    (hrr : ∀ h' : Nat → RE, ∀ g' : Gh, g'.Z = Z' → Ext g w σ.h g' w' h' → RR g' w' h' ⟨(σ.h m).inc + 1, 0, c⟩ v fp) :
    ∃ g', Rl F ⟨σ.s, setH σ.h ((m, ⟨(H m).inc + 1, 0, c⟩) :: dead H T)⟩ a w' g' ∧ g'.Z = Z' ∧ g'.loc m = v ∧ g'.fp m = fp ∧ (∀ id, id ≠ m → g'.loc id = g.loc id) ∧
      Ext g w σ.h g' w' (setH σ.h ((m, ⟨(H m).inc + 1, 0, c⟩) :: dead H T)) := by
  let g' : Gh := ⟨Z', fun id => if id = m then v else g.loc id, fun id => if id = m then fp else if id ∈ T then [] else g.fp id⟩
  have hh : ∀ id, setH σ.h ((m, ⟨(H m).inc + 1, 0, c⟩) :: dead H T) id = if id = m then ⟨(σ.h m).inc + 1, 0, c⟩ else if id ∈ T then ⟨(σ.h id).inc + 1, 0, .none⟩ else σ.h id := by
    intro id
    rw [setH_cons, setH_dead, hm]
    by_cases e : id = m
    · simp [e]
    · rw [if_neg e, if_neg e]
      by_cases e2 : id ∈ T
      · rw [if_pos e2, if_pos e2, hT id e2]
      · rw [if_neg e2, if_neg e2]
  have hkeep : ∀ id, id ≠ m → id ∉ T → ∀ b ∈ g.fp id, w'.heap[b]? = w.heap[b]? := by
    intro id h1 h2 b hb
    refine fr b ((r.rt id).lt b hb) (fun id' h3 h4 => h2 ?_)
    rw [r.dj id id' b hb h4]
    exact h3
  have hZ : ∀ b, g.Z b → w'.heap[b]? = w.heap[b]? := fun b hb => fr b (r.zl b hb) (fun id _ h => (r.sp id b h).1 hb)
  have x : Ext g w σ.h g' w' (setH σ.h ((m, ⟨(H m).inc + 1, 0, c⟩) :: dead H T)) := by
    refine ⟨hZ, hZZ, fun id => ?_⟩
    rw [hh id]
    by_cases e : id = m
    · subst e; left; simp
    · rw [if_neg e]
      by_cases e2 : id ∈ T
      · left; simp [e2]
      · rw [if_neg e2]
        right
        refine ⟨rfl, Nat.le_refl _, by simp [g', e], SameC.refl _, fun _ ee xs hc p u hat => ?_⟩
        have hrow := r.rt id
        unfold RR at hrow
        rw [hc] at hrow
        exact RowAt.frame hrow (hkeep id e e2) hat
  refine ⟨g', ?_, rfl, by simp [g'], by simp [g'], fun id h => by simp [g', h], x⟩
  refine r.step x ?_ ?_ ?_ ?_ ?_ ?_ os tp ou sz ?_ ?_
  · intro id
    rw [hh id]
    by_cases e : id = m
    · subst e
      simp only [if_true]
      have : g'.loc id = v ∧ g'.fp id = fp := by simp [g']
      rw [this.1, this.2]
      exact hrr _ g' rfl x
    · rw [if_neg e]
      by_cases e2 : id ∈ T
      · rw [if_pos e2]
        simp [RR, g', e, e2]
      · rw [if_neg e2]
        have : g'.loc id = g.loc id ∧ g'.fp id = g.fp id := by simp [g', e, e2]
        rw [this.1, this.2]
        exact (r.rt id).ext x (hkeep id e e2)
  · intro id
    show (if id = m then fp else if id ∈ T then [] else g.fp id).Nodup
    split
    · exact hfp
    · split
      · exact List.nodup_nil
      · exact r.nd id
  · intro id id' b h1 h2
    have key : ∀ id, b ∈ g'.fp id → id = m ∧ b ∈ fp ∨ id ≠ m ∧ id ∉ T ∧ b ∈ g.fp id := by
      intro id h
      have h : b ∈ (if id = m then fp else if id ∈ T then [] else g.fp id) := h
      split at h
      · exact .inl ⟨‹_›, h⟩
      · split at h
        · simp at h
        · exact .inr ⟨‹_›, ‹_›, h⟩
    have excl : ∀ id, id ≠ m → id ∉ T → b ∈ g.fp id → b ∈ fp → False := by
      intro id h1 h2 h3 h4
      rcases (hnew b h4).2 with h5 | ⟨id2, h5, h6⟩
      · have := (r.rt id).lt b h3; omega
      · rw [r.dj id id2 b h3 h6] at h2; exact h2 h5
    rcases key id h1 with ⟨a1, a2⟩ | ⟨a1, a2, a3⟩ <;> rcases key id' h2 with ⟨b1, b2⟩ | ⟨b1, b2, b3⟩
    · rw [a1, b1]
    · exact (excl id' b1 b2 b3 a2).elim
    · exact (excl id a1 a2 a3 b2).elim
    · exact r.dj id id' b a3 b3
  · intro id b h
    have h : b ∈ (if id = m then fp else if id ∈ T then [] else g.fp id) := h
    split at h
    · refine ⟨(hnew b h).1, ?_⟩
      rcases (hnew b h).2 with h5 | ⟨id2, h5, h6⟩
      · exact r.uf b (Nat.le_trans r.sz h5)
      · exact (r.sp id2 b h6).2
    · split at h
      · simp at h
      · rename_i h1 h2
        refine ⟨fun hz => ?_, (r.sp id b h).2⟩
        rcases hZT b hz with h3 | ⟨id2, h3, h4⟩
        · exact (r.sp id b h).1 h3
        · rw [r.dj id id2 b h h4] at h2; exact h2 h3
  · intro b hb
    rcases hZT b hb with h3 | ⟨id2, h3, h4⟩
    · exact Nat.lt_of_lt_of_le (r.zl b h3) sz
    · exact Nat.lt_of_lt_of_le ((r.rt id2).lt b h4) sz
  · intro b hb
    rcases hZT b hb with h3 | ⟨id2, h3, h4⟩
    · exact .inl h3
    · exact .inr (r.sp id2 b h4).2
  · intro b hb hu
    exact fr b hb (fun id _ h => hu (r.sp id b h).2)
  · intro p hp hi
    rw [hh p.1, if_neg (hm1 p hp)] at hi
    refine ⟨?_, by simp [g', hm1 p hp]⟩
    by_cases e2 : p.1 ∈ T
    · rw [if_pos e2] at hi
      have := r.p1 p hp
      simp at hi
      omega
    · rw [if_neg e2] at hi
      exact hi
end
end VM
