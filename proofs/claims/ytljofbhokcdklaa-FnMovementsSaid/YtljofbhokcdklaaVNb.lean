/- Functions: how they begin. -/
import Derived.Test.YtljofbhokcdklaaVNa
set_option linter.unusedVariables false
set_option linter.unusedSimpArgs false
namespace VM
open Go

section
variable {P : Program} {σ : St} {a : Act} {w : World} {g : Gh} {R : Type} {tt : List (Nat × TD)} {env : List Ct} {k : Nat} {o : Oper} {y : R}

/-- Rows that lie under new names: what the slots then hold, for ever. -/
theorem expN_base {Z : Nat → Prop} : ∀ {c : CK} {x : c.den} {us : List Value} {fp : List Nat} (n : Nat), Has Z w true c x us fp →
    ∃ L : List Claim, (expN (fun _ => RE0) true c x n).2.1 = L.map Claim.pr ∧ L.flatMap (·.fp) = fp ∧ (∀ q ∈ L, n ≤ q.id ∧ q.re.inc = 1) ∧ (expN (fun _ => RE0) true c x n).1.length = c.size ∧ (expN (fun _ => RE0) true c x n).2.2 ≥ n ∧
      (∀ q ∈ L, ∀ g' h', g'.Z = Z → RR g' w h' q.re q.loc q.fp) ∧ (∀ g' h', Agr g' h' L → All2 (CVr g' w h') (expN (fun _ => RE0) true c x n).1 us) ∧
      (∀ F : Fx, (∀ q ∈ L, (q.id, q.loc) ∈ F.P0) → ∀ g', All2 (BVr F g' w) (expN (fun _ => RE0) true c x n).1 us) ∧
      (∀ F : Fx, (∀ q ∈ L, (q.id, q.loc) ∈ F.P0) → ∀ {σ : St} {a : Act} {w' : World} {g' : Gh}, Rl F σ a w' g' → ∀ {rest : List CV} {z : c.den} {ids : List Nat} {r2 : List CV} {n2 : Nat},
        contP σ.h c ((expN (fun _ => RE0) true c x n).1 ++ rest) n = some (z, ids, r2, n2) → r2 = rest ∧ n2 = (expN (fun _ => RE0) true c x n).2.2 ∧ Has g'.Z w' true c z us (ids.flatMap g'.fp)) := by
  intro c
  induction c with
  | int kk =>
    intro x us fp n h
    refine ⟨[], rfl, by simp [h.2], by simp, rfl, Nat.le_refl _, by simp, fun g' h' _ => by rw [h.1]; exact ⟨rfl, trivial⟩, fun _ _ g' => by rw [h.1]; exact ⟨rfl, trivial⟩, ?_⟩
    intro _ _ σ a w' g' r rest z ids r2 n2 hc
    have hc : (if kk = kk then some (x, ([] : List Nat), rest, n) else none) = some (z, ids, r2, n2) := hc
    rw [if_pos rfl] at hc
    simp only [Option.some.injEq, Prod.mk.injEq] at hc
    obtain ⟨rfl, rfl, rfl, rfl⟩ := hc
    exact ⟨rfl, rfl, h.1, rfl⟩
  | bool =>
    intro x us fp n h
    refine ⟨[], rfl, by simp [h.2], by simp, rfl, Nat.le_refl _, by simp, fun g' h' _ => by rw [h.1]; exact ⟨rfl, trivial⟩, fun _ _ g' => by rw [h.1]; exact ⟨rfl, trivial⟩, ?_⟩
    intro _ _ σ a w' g' r rest z ids r2 n2 hc
    have hc : some (x, ([] : List Nat), rest, n) = some (z, ids, r2, n2) := hc
    simp only [Option.some.injEq, Prod.mk.injEq] at hc
    obtain ⟨rfl, rfl, rfl, rfl⟩ := hc
    exact ⟨rfl, rfl, h.1, rfl⟩
  | str =>
    intro x us fp n h
    refine ⟨[], rfl, by simp [h.2], by simp, rfl, Nat.le_refl _, by simp, fun g' h' _ => by rw [h.1]; exact ⟨rfl, trivial⟩, fun _ _ g' => by rw [h.1]; exact ⟨rfl, trivial⟩, ?_⟩
    intro _ _ σ a w' g' r rest z ids r2 n2 hc
    have hc : some (x, ([] : List Nat), rest, n) = some (z, ids, r2, n2) := hc
    simp only [Option.some.injEq, Prod.mk.injEq] at hc
    obtain ⟨rfl, rfl, rfl, rfl⟩ := hc
    exact ⟨rfl, rfl, h.1, rfl⟩
  | unit =>
    intro x us fp n h
    refine ⟨[], rfl, by simp [h.2], by simp, rfl, Nat.le_refl _, by simp, fun g' h' _ => by rw [h.1]; trivial, fun _ _ g' => by rw [h.1]; trivial, ?_⟩
    intro _ _ σ a w' g' r rest z ids r2 n2 hc
    have hc : some ((), ([] : List Nat), rest, n) = some (z, ids, r2, n2) := by cases rest <;> exact hc
    simp only [Option.some.injEq, Prod.mk.injEq] at hc
    obtain ⟨_, rfl, rfl, rfl⟩ := hc
    exact ⟨rfl, rfl, h.1, rfl⟩
  | sl e ih =>
    rintro xs us fp n ⟨v, hu, hh⟩
    rcases hh with ⟨_, hrow⟩ | ⟨hc, _⟩
    case inr => cases hc
    have hone : v.oneCell' = true := by
      obtain ⟨A, cap, hv, _⟩ := hrow
      rw [hv]; rfl
    refine ⟨[⟨n, ⟨1, 0, .row true e xs⟩, v, fp⟩], rfl, by simp, by simp, rfl, Nat.le_succ _, ?_, ?_, ?_, ?_⟩
    · intro q hq g' h' hz
      simp only [List.mem_singleton] at hq
      subst hq
      show Row g'.Z w true e xs v fp
      rw [hz]
      exact hrow
    · intro g' h' hag
      obtain ⟨a1, a2, a3⟩ := hag _ (List.mem_singleton.2 rfl)
      simp only at a1 a2 a3
      rw [hu]
      exact ⟨⟨⟨by rw [a1]; exact Nat.le_refl _, fun _ => Nat.zero_le _, hone⟩, fun d' e' xs' hc _ => a2.symm⟩, trivial⟩
    · intro F hp g'
      rw [hu]
      exact ⟨⟨hp _ (List.mem_singleton.2 rfl), hone⟩, trivial⟩
    · intro F hp σ a w' g' r rest z ids r2 n2 hc
      have hc : (bif Nat.beq n n then match σ.h n with
          | ⟨1, _, .row d e' xs⟩ => bif d || e.flat then (if h : e' = e then some (castL h xs, [n], rest, n + 1) else none) else none
          | _ => none
        else none) = some (z, ids, r2, n2) := hc
      obtain ⟨_, hc⟩ := cond_some hc
      split at hc
      case h_2 => cases hc
      rename_i v0 d e' xs' hH
      obtain ⟨hdf, hc⟩ := cond_some hc
      split at hc
      case isFalse => cases hc
      rename_i he
      subst he
      simp only [Option.some.injEq, Prod.mk.injEq, castL_id] at hc
      obtain ⟨rfl, rfl, rfl, rfl⟩ := hc
      have hloc : g'.loc n = v := r.pl _ (hp _ (List.mem_singleton.2 rfl)) (by show (σ.h n).inc = 1; rw [hH])
      have hr := r.rt n
      unfold RR at hr
      rw [hH, hloc] at hr
      refine ⟨rfl, rfl, v, hu, .inl ⟨rfl, ?_⟩⟩
      rw [List.flatMap_cons, List.flatMap_nil, List.append_nil]
      rw [Bool.or_eq_true] at hdf
      rcases hdf with hd | hd
      · rw [hd] at hr; exact hr
      · exact Row.deep_of_flat hd hr
  | pair p q ihp ihq =>
    rintro x us fp n ⟨u1, u2, f1, f2, h1, h2, h3, h4⟩
    obtain ⟨L1, l1, l2, l3, l4, l5, l6, l7, l8, l9⟩ := ihp n h3
    obtain ⟨L2, m1, m2, m3, m4, m5, m6, m7, m8, m9⟩ := ihq (expN (fun _ => RE0) true p x.1 n).2.2 h4
    refine ⟨L1 ++ L2, ?_, by rw [List.flatMap_append, l2, m2, h2], ?_, ?_, Nat.le_trans l5 m5, ?_, ?_, ?_, ?_⟩
    · show (expN (fun _ => RE0) true p x.1 n).2.1 ++ (expN (fun _ => RE0) true q x.2 (expN (fun _ => RE0) true p x.1 n).2.2).2.1 = _
      rw [l1, m1, List.map_append]
    · intro s hs
      rcases List.mem_append.1 hs with hs | hs
      · exact l3 s hs
      · exact ⟨Nat.le_trans l5 (m3 s hs).1, (m3 s hs).2⟩
    · show ((expN (fun _ => RE0) true p x.1 n).1 ++ (expN (fun _ => RE0) true q x.2 (expN (fun _ => RE0) true p x.1 n).2.2).1).length = _
      rw [List.length_append, l4, m4]
      rfl
    · intro s hs
      exact (List.mem_append.1 hs).elim (l6 s) (m6 s)
    · intro g' h' hag
      rw [h1]
      exact (l7 g' h' hag.left).append (m7 g' h' hag.right)
    · intro F hp g'
      rw [h1]
      exact (l8 F (fun s hs => hp s (by simp [hs])) g').append (m8 F (fun s hs => hp s (by simp [hs])) g')
    · intro F hp σ a w' g' r rest z ids r2 n2 hc
      have hc : (match contP σ.h p ((expN (fun _ => RE0) true p x.1 n).1 ++ (expN (fun _ => RE0) true q x.2 (expN (fun _ => RE0) true p x.1 n).2.2).1 ++ rest) n with
        | some (x, i1, r, i) => match contP σ.h q r i with
          | some (y, i2, r, i) => some ((x, y), i1 ++ i2, r, i)
          | none => none
        | none => none) = some (z, ids, r2, n2) := by
          generalize hl : (expN (fun _ => RE0) true p x.1 n).1 ++ (expN (fun _ => RE0) true q x.2 (expN (fun _ => RE0) true p x.1 n).2.2).1 ++ rest = l
          have hc : contP σ.h (p.pair q) ((expN (fun _ => RE0) true p x.1 n).1 ++ (expN (fun _ => RE0) true q x.2 (expN (fun _ => RE0) true p x.1 n).2.2).1 ++ rest) n = some (z, ids, r2, n2) := hc
          rw [hl] at hc
          cases l <;> exact hc
      rw [List.append_assoc] at hc
      split at hc
      case h_2 => cases hc
      rename_i x1 i1 r1 n1 hp1
      split at hc
      case h_2 => cases hc
      rename_i x2 i2 r3 n3 hq1
      simp only [Option.some.injEq, Prod.mk.injEq] at hc
      obtain ⟨rfl, rfl, rfl, rfl⟩ := hc
      obtain ⟨rfl, rfl, k3⟩ := l9 F (fun s hs => hp s (by simp [hs])) r hp1
      obtain ⟨rfl, rfl, k4⟩ := m9 F (fun s hs => hp s (by simp [hs])) r hq1
      exact ⟨rfl, rfl, u1, u2, _, _, h1, by simp, k3, k4⟩
end
end VM
