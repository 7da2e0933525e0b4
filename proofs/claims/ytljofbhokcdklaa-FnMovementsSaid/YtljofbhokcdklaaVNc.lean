/- Functions: the state at entry. -/
import Derived.Test.YtljofbhokcdklaaVNb
set_option linter.unusedVariables false
set_option linter.unusedSimpArgs false
namespace VM
open Go

section
variable {P : Program} {F : Fx} {σ : St} {a : Act} {w : World} {g : Gh} {R : Type} {tt : List (Nat × TD)} {env : List Ct} {k : Nat} {o : Oper} {y : R}

theorem bs_toSV {g' : Gh} {c : CK} {cs : List CV} {us : List Value} (ha : All2 (BVr F g' w) cs us) (hl : cs.length = c.size) : BSr F g' w (toSV c cs) (valV c us) := by
  unfold toSV valV
  cases hc : c.isAgg with
  | true => exact ⟨us, rfl, ha⟩
  | false =>
    have h1 := size_of_not_agg hc
    rw [h1] at hl
    match cs, us, ha with
    | [v], [u], ⟨h1, _⟩ => exact h1
    | [], _, _ => simp at hl
    | _ :: _ :: _, _, _ => simp at hl

theorem expS_base {g' : Gh} : ∀ {c : CK} {x : c.den} {us : List Value}, Has g'.Z w false c x us [] → All2 (BVr F g' w) (expS c x) us
  | .int k, x, us, h => by rw [h.1]; exact ⟨rfl, trivial⟩
  | .bool, x, us, h => by rw [h.1]; exact ⟨rfl, trivial⟩
  | .str, x, us, h => by rw [h.1]; exact ⟨rfl, trivial⟩
  | .unit, x, us, h => by rw [h.1]; trivial
  | .sl e, x, us, h => by
    obtain ⟨v, hu, hh⟩ := h
    rw [hu]
    exact ⟨⟨v, rfl, hh⟩, trivial⟩
  | .pair a b, x, us, ⟨u1, u2, f1, f2, h1, h2, h3, h4⟩ => by
    have e1 := Has.fp_false h3
    have e2 := Has.fp_false h4
    subst e1 e2
    rw [h1]
    exact (expS_base h3).append (expS_base h4)

/-- What one parameter brings. -/
theorem slotsAt {σ1 : St} {i : Nat} {v : SV} {h : Nat → RE} (j : Nat) : (⟨(σ1.setS i v).s, h⟩ : St).s j = if j = i then v else σ1.s j := setS_at σ1 i v j

theorem inSt_sound {Z : Nat → Prop} : ∀ {ps : List (PM × CK)} {i : Nat} {x : (inK ps).den} {us : List Value} {fp : List Nat}, InsR Z w ps x us fp →
    ∃ L : List Claim, inH ps i x = L.map Claim.pr ∧ (inSt ps i x).h = setH (fun _ => RE0) (inH ps i x) ∧ L.flatMap (·.fp) = fp ∧ (∀ q ∈ L, q.re.inc = 1) ∧ us.length = ps.length ∧
      (∀ j, j < i → (inSt ps i x).s j = .one .undef) ∧
      (∀ g' h', g'.Z = Z → Agr g' h' L → (∀ q ∈ L, RR g' w h' q.re q.loc q.fp) ∧ ∀ j, i ≤ j → SVr g' w h' ((inSt ps i x).s j) (us.getD (j - i) undef)) ∧
      (∀ F : Fx, (∀ q ∈ L, 3000000 ≤ q.id → (q.id, q.loc) ∈ F.P0) →
        (∀ g' : Gh, g'.Z = Z → ∀ cs, ownOut cs ps i = true → ∀ j, i ≤ j → j ∈ cs → BSr F g' w ((inSt ps i x).s j) (us.getD (j - i) undef)) ∧
        ∀ {σ : St} {a : Act} {w' : World} {g' : Gh} {m : (mutK ps).den} {U : List Nat} {B : St}, (∀ j, i ≤ j → B.s j = (inSt ps i x).s j) → Rl F σ a w' g' → mutsOut B σ.h ps i = some (m, U) → U.Nodup → MutsR g'.Z w' ps m us (U.flatMap g'.fp))
  | [], i, x, [], fp, h => by
    refine ⟨[], rfl, rfl, by simp only [InsR] at h; simp [h], by simp, rfl, fun _ _ => rfl, fun g' h' _ _ => ⟨by simp, fun j _ => trivial⟩, fun _ _ => ⟨fun g' _ cs _ j _ _ => trivial, ?_⟩⟩
    intro σ a w' g' m U B _ r hm _
    obtain ⟨_, rfl⟩ := Prod.mk.inj (Option.some.inj hm)
    rfl
  | [], i, x, _ :: _, fp, h => h.elim
  | (.fn f, c) :: ps, i, x, v :: us, fp, ⟨hv, h⟩ => by
    obtain ⟨L, l1, l2, l3, l4, l5, l6, l7, l8⟩ := inSt_sound (i := i + 1) h
    have hs : ∀ j, (inSt ((.fn f, c) :: ps) i x).s j = if j = i then .one (.fn f) else (inSt ps (i + 1) x).s j := fun j => slotsAt j
    refine ⟨L, l1, l2, l3, l4, by simp [l5], fun j hj => ?_, fun g' h' hz hag => ⟨(l7 g' h' hz hag).1, fun j hj => ?_⟩, fun F hp => ⟨fun g' hz cs ho j hj hc => ?_, ?_⟩⟩
    · rw [hs, if_neg (by omega)]; exact l6 j (by omega)
    · rw [hs]
      by_cases e : j = i
      · subst e; rw [if_pos rfl, Nat.sub_self]; exact hv
      · rw [if_neg e]
        have := (l7 g' h' hz hag).2 j (by omega)
        rwa [show j - i = (j - (i + 1)) + 1 by omega, List.getD_cons_succ]
    · rw [hs]
      by_cases e : j = i
      · subst e; rw [if_pos rfl, Nat.sub_self]; exact hv
      · rw [if_neg e]
        have := (l8 F hp).1 g' hz cs ho j (by omega) hc
        rwa [show j - i = (j - (i + 1)) + 1 by omega, List.getD_cons_succ]
    · intro σ a w' g' m U B hB r hm hU
      exact (l8 F hp).2 (B := B) (fun j hj => by rw [hB j (by omega), hs, if_neg (by omega)]) r hm hU
  | (.imm, c) :: ps, i, x, v :: us, fp, ⟨⟨vs, hv, hh⟩, h⟩ => by
    obtain ⟨L, l1, l2, l3, l4, l5, l6, l7, l8⟩ := inSt_sound (i := i + 1) h
    have hs : ∀ j, (inSt ((.imm, c) :: ps) i x).s j = if j = i then toSV c (expS c x.1) else (inSt ps (i + 1) x.2).s j := fun j => slotsAt j
    refine ⟨L, l1, l2, l3, l4, by simp [l5], fun j hj => ?_, fun g' h' hz hag => ⟨(l7 g' h' hz hag).1, fun j hj => ?_⟩, fun F hp => ⟨fun g' hz cs ho j hj hc => ?_, ?_⟩⟩
    · rw [hs, if_neg (by omega)]; exact l6 j (by omega)
    · rw [hs]
      by_cases e : j = i
      · subst e; rw [if_pos rfl, Nat.sub_self, List.getD_cons_zero, hv]
        exact toSV_sound (expS_sound (by rw [hz]; exact hh)) (expS_len c x.1)
      · rw [if_neg e]
        have := (l7 g' h' hz hag).2 j (by omega)
        rwa [show j - i = (j - (i + 1)) + 1 by omega, List.getD_cons_succ]
    · rw [hs]
      by_cases e : j = i
      · subst e; rw [if_pos rfl, Nat.sub_self, List.getD_cons_zero, hv]
        exact bs_toSV (expS_base (by rw [hz]; exact hh)) (expS_len c x.1)
      · rw [if_neg e]
        have := (l8 F hp).1 g' hz cs ho j (by omega) hc
        rwa [show j - i = (j - (i + 1)) + 1 by omega, List.getD_cons_succ]
    · intro σ a w' g' m U B hB r hm hU
      exact (l8 F hp).2 (B := B) (fun j hj => by rw [hB j (by omega), hs, if_neg (by omega)]) r hm hU
  | (.own, c) :: ps, i, x, v :: us, fp, ⟨vs, f1, f2, hf, hv, hh, h⟩ => by
    obtain ⟨L, l1, l2, l3, l4, l5, l6, l7, l8⟩ := inSt_sound (i := i + 1) h
    obtain ⟨M, m1, m2, m3, m4, m5, m6, m7, m8, m9⟩ := expN_base (uid i 0) hh
    have hs : ∀ j, (inSt ((.own, c) :: ps) i x).s j = if j = i then toSV c (expN (fun _ => RE0) true c x.1 (uid i 0)).1 else (inSt ps (i + 1) x.2).s j := fun j => slotsAt j
    refine ⟨M ++ L, ?_, ?_, by rw [List.flatMap_append, l3, m2, hf], ?_, by simp [l5], fun j hj => ?_, fun g' h' hz hag => ⟨?_, fun j hj => ?_⟩, fun F hp => ⟨fun g' hz cs ho j hj hc => ?_, ?_⟩⟩
    · show (expN (fun _ => RE0) true c x.1 (uid i 0)).2.1 ++ inH ps (i + 1) x.2 = _
      rw [l1, m1, List.map_append]
    · show setH (inSt ps (i + 1) x.2).h (expN (fun _ => RE0) true c x.1 (uid i 0)).2.1 = setH (fun _ => RE0) ((expN (fun _ => RE0) true c x.1 (uid i 0)).2.1 ++ inH ps (i + 1) x.2)
      rw [l2]; funext j; rw [setH_append]
    · intro q hq; exact (List.mem_append.1 hq).elim (fun h => (m3 q h).2) (l4 q)
    · rw [hs, if_neg (by omega)]; exact l6 j (by omega)
    · intro q hq; exact (List.mem_append.1 hq).elim (fun h => m6 q h g' h' hz) ((l7 g' h' hz hag.right).1 q)
    · rw [hs]
      by_cases e : j = i
      · subst e; rw [if_pos rfl, Nat.sub_self, List.getD_cons_zero, hv]
        exact toSV_sound (m7 g' h' hag.left) m4
      · rw [if_neg e]
        have := (l7 g' h' hz hag.right).2 j (by omega)
        rwa [show j - i = (j - (i + 1)) + 1 by omega, List.getD_cons_succ]
    · simp only [ownOut, Bool.and_eq_true, Bool.not_eq_true'] at ho
      rw [hs]
      by_cases e : j = i
      · subst e; rw [memB_iff.2 hc] at ho; exact absurd ho.1 (by simp)
      · rw [if_neg e]
        have := (l8 F (fun q hq => hp q (by simp [hq]))).1 g' hz cs ho.2 j (by omega) hc
        rwa [show j - i = (j - (i + 1)) + 1 by omega, List.getD_cons_succ]
    · intro σ a w' g' m U B hB r hm hU
      exact (l8 F (fun q hq => hp q (by simp [hq]))).2 (B := B) (fun j hj => by rw [hB j (by omega), hs, if_neg (by omega)]) r hm hU
  | (.mut, c) :: ps, i, x, v :: us, fp, ⟨vs, f1, f2, hf, hv, hh, h⟩ => by
    obtain ⟨L, l1, l2, l3, l4, l5, l6, l7, l8⟩ := inSt_sound (i := i + 1) h
    obtain ⟨M, m1, m2, m3, m4, m5, m6, m7, m8, m9⟩ := expN_base (pid i 0) hh
    have hs : ∀ j, (inSt ((.mut, c) :: ps) i x).s j = if j = i then toSV c (expN (fun _ => RE0) true c x.1 (pid i 0)).1 else (inSt ps (i + 1) x.2).s j := fun j => slotsAt j
    have hpM : ∀ F : Fx, (∀ q ∈ M ++ L, 3000000 ≤ q.id → (q.id, q.loc) ∈ F.P0) → ∀ q ∈ M, (q.id, q.loc) ∈ F.P0 := fun F hp q hq => hp q (by simp [hq]) (by have := (m3 q hq).1; unfold pid at this; omega)
    refine ⟨M ++ L, ?_, ?_, by rw [List.flatMap_append, l3, m2, hf], ?_, by simp [l5], fun j hj => ?_, fun g' h' hz hag => ⟨?_, fun j hj => ?_⟩, fun F hp => ⟨fun g' hz cs ho j hj hc => ?_, ?_⟩⟩
    · show (expN (fun _ => RE0) true c x.1 (pid i 0)).2.1 ++ inH ps (i + 1) x.2 = _
      rw [l1, m1, List.map_append]
    · show setH (inSt ps (i + 1) x.2).h (expN (fun _ => RE0) true c x.1 (pid i 0)).2.1 = setH (fun _ => RE0) ((expN (fun _ => RE0) true c x.1 (pid i 0)).2.1 ++ inH ps (i + 1) x.2)
      rw [l2]; funext j; rw [setH_append]
    · intro q hq; exact (List.mem_append.1 hq).elim (fun h => (m3 q h).2) (l4 q)
    · rw [hs, if_neg (by omega)]; exact l6 j (by omega)
    · intro q hq; exact (List.mem_append.1 hq).elim (fun h => m6 q h g' h' hz) ((l7 g' h' hz hag.right).1 q)
    · rw [hs]
      by_cases e : j = i
      · subst e; rw [if_pos rfl, Nat.sub_self, List.getD_cons_zero, hv]
        exact toSV_sound (m7 g' h' hag.left) m4
      · rw [if_neg e]
        have := (l7 g' h' hz hag.right).2 j (by omega)
        rwa [show j - i = (j - (i + 1)) + 1 by omega, List.getD_cons_succ]
    · rw [hs]
      by_cases e : j = i
      · subst e; rw [if_pos rfl, Nat.sub_self, List.getD_cons_zero, hv]
        exact bs_toSV (m8 F (hpM F hp) g') m4
      · rw [if_neg e]
        have := (l8 F (fun q hq => hp q (by simp [hq]))).1 g' hz cs ho j (by omega) hc
        rwa [show j - i = (j - (i + 1)) + 1 by omega, List.getD_cons_succ]
    · intro σ a w' g' m U B hB r hm hU
      have hBi : (B.s i).cells = (expN (fun _ => RE0) true c x.1 (pid i 0)).1 := by
        rw [hB i (Nat.le_refl _), hs, if_pos rfl]
        unfold toSV
        cases hc : c.isAgg with
        | true => rfl
        | false =>
          have h1 := size_of_not_agg hc
          rw [h1] at m4
          generalize (expN (fun _ => RE0) true c x.1 (pid i 0)).1 = l at m4
          match l, m4 with
          | [z], _ => rfl
      have hm : (match contP σ.h c (B.s i).cells (pid i 0) with
        | some (y, ids, [], _) => match mutsOut B σ.h ps (i + 1) with
          | some (z, js) => some ((y, z), ids ++ js)
          | none => none
        | _ => none) = some ((m : c.den × (mutK ps).den), U) := hm
      split at hm
      case h_2 => cases hm
      rename_i y1 i1 n1 hc1
      split at hm
      case h_2 => cases hm
      rename_i z1 js hmo
      simp only [Option.some.injEq, Prod.mk.injEq] at hm
      obtain ⟨rfl, rfl⟩ := hm
      rw [hBi] at hc1
      obtain ⟨_, _, k3⟩ := m9 F (hpM F hp) r (rest := []) (by rw [List.append_nil]; exact hc1)
      have := (l8 F (fun q hq => hp q (by simp [hq]))).2 (B := B) (fun j hj => by rw [hB j (by omega), hs, if_neg (by omega)]) r hmo (List.nodup_append.1 hU).2.1
      exact ⟨vs, i1.flatMap g'.fp, js.flatMap g'.fp, by simp, hv, hh.len, k3, this⟩
  | (.ptr, c) :: ps, i, x, v :: us, fp, ⟨b, vs, ty, f1, f2, hf, hv, hb, hh, h⟩ => by
    obtain ⟨L, l1, l2, l3, l4, l5, l6, l7, l8⟩ := inSt_sound (i := i + 1) h
    obtain ⟨M, m1, m2, m3, m4, m5, m6, m7, m8, m9⟩ := expN_base (uid i 1) hh
    have hs : ∀ j, (inSt ((.ptr, c) :: ps) i x).s j = if j = i then .one (.vptr (pid i 0) 1 0) else (inSt ps (i + 1) x.2).s j := fun j => slotsAt j
    let q0 : Claim := ⟨pid i 0, ⟨1, 0, .var (expN (fun _ => RE0) true c x.1 (uid i 1)).1⟩, v, [b]⟩
    have hq0 : 3000000 ≤ q0.id := by show 3000000 ≤ pid i 0; unfold pid; omega
    refine ⟨q0 :: (M ++ L), ?_, ?_, ?_, ?_, by simp [l5], fun j hj => ?_, fun g' h' hz hag => ⟨?_, fun j hj => ?_⟩, fun F hp => ⟨fun g' hz cs ho j hj hc => ?_, ?_⟩⟩
    · show ((pid i 0, _) :: (expN (fun _ => RE0) true c x.1 (uid i 1)).2.1) ++ inH ps (i + 1) x.2 = _
      rw [l1, m1, List.map_cons, List.map_append]; rfl
    · show setH (inSt ps (i + 1) x.2).h ((pid i 0, _) :: (expN (fun _ => RE0) true c x.1 (uid i 1)).2.1) = setH (fun _ => RE0) (((pid i 0, _) :: (expN (fun _ => RE0) true c x.1 (uid i 1)).2.1) ++ inH ps (i + 1) x.2)
      rw [l2]; funext j; rw [setH_append]
    · rw [List.flatMap_cons, List.flatMap_append, l3, m2, hf]; rfl
    · intro q hq
      rcases List.mem_cons.1 hq with rfl | hq
      · rfl
      · exact (List.mem_append.1 hq).elim (fun h => (m3 q h).2) (l4 q)
    · rw [hs, if_neg (by omega)]; exact l6 j (by omega)
    · have hag2 : Agr g' h' (M ++ L) := fun q hq => hag q (List.mem_cons_of_mem _ hq)
      intro q hq
      rcases List.mem_cons.1 hq with rfl | hq
      · exact ⟨b, vs, ty, hv, rfl, hb, m7 g' h' hag2.left⟩
      · exact (List.mem_append.1 hq).elim (fun h => m6 q h g' h' hz) ((l7 g' h' hz hag2.right).1 q)
    · have hag2 : Agr g' h' (M ++ L) := fun q hq => hag q (List.mem_cons_of_mem _ hq)
      obtain ⟨a1, a2, a3⟩ := hag q0 List.mem_cons_self
      have a1 : h' (pid i 0) = ⟨1, 0, .var (expN (fun _ => RE0) true c x.1 (uid i 1)).1⟩ := a1
      have a2 : g'.loc (pid i 0) = v := a2
      rw [hs]
      by_cases e : j = i
      · subst e; rw [if_pos rfl, Nat.sub_self, List.getD_cons_zero]
        exact ⟨⟨by rw [a1]; exact Nat.le_refl _, by rw [hv]; rfl⟩, fun _ cs' hc' => ⟨b, by rw [a2]; exact hv, hv⟩⟩
      · rw [if_neg e]
        have := (l7 g' h' hz hag2.right).2 j (by omega)
        rwa [show j - i = (j - (i + 1)) + 1 by omega, List.getD_cons_succ]
    · rw [hs]
      by_cases e : j = i
      · subst e; rw [if_pos rfl, Nat.sub_self, List.getD_cons_zero]
        exact ⟨hp q0 List.mem_cons_self hq0, b, hv⟩
      · rw [if_neg e]
        have := (l8 F (fun q hq => hp q (by simp [hq]))).1 g' hz cs ho j (by omega) hc
        rwa [show j - i = (j - (i + 1)) + 1 by omega, List.getD_cons_succ]
    · intro σ a w' g' m U B hB r hm hU
      have hm : (match σ.h (pid i 0) with
        | ⟨1, _, .var cs⟩ => match gathAll σ.h .deep c cs with
          | some (y, ids) => match mutsOut B σ.h ps (i + 1) with
            | some (z, js) => some ((y, z), pid i 0 :: (ids ++ js))
            | none => none
          | none => none
        | _ => none) = some ((m : c.den × (mutK ps).den), U) := hm
      split at hm
      case h_2 => cases hm
      rename_i v0 cs hH
      split at hm
      case h_2 => cases hm
      rename_i y1 ids hg
      split at hm
      case h_2 => cases hm
      rename_i z1 js hmo
      simp only [Option.some.injEq, Prod.mk.injEq] at hm
      obtain ⟨rfl, rfl⟩ := hm
      have hloc : g'.loc (pid i 0) = v := r.pl _ (hp q0 List.mem_cons_self hq0) (by show (σ.h (pid i 0)).inc = 1; rw [hH])
      have hrr := r.rt (pid i 0)
      unfold RR at hrr
      rw [hH, hloc] at hrr
      obtain ⟨b', us', ty', n1, n2, n3, n4⟩ := hrr
      obtain ⟨u1, u2, e1, e2, e3⟩ := gath_deep (d := none) r (hok_self σ.h) (gathAll_some hg).1 n4
      have := rest_nil e1 e3
      subst this
      have hU2 := (List.nodup_append.1 (List.nodup_cons.1 hU).2).2.1
      have := (l8 F (fun q hq => hp q (by simp [hq]))).2 (B := B) (fun j hj => by rw [hB j (by omega), hs, if_neg (by omega)]) r hmo hU2
      exact ⟨b', _, ty', ids.flatMap g'.fp, js.flatMap g'.fp, by simp [n2], n1, n3, e2, this⟩
  | (.pts, c) :: ps, i, x, v :: us, fp, ⟨b, vs, ty, f2, hf, hv, hb, hh, h⟩ => by
    obtain ⟨L, l1, l2, l3, l4, l5, l6, l7, l8⟩ := inSt_sound (i := i + 1) h
    have hs : ∀ j, (inSt ((.pts, c) :: ps) i x).s j = if j = i then .one (.vptr (pid i 0) 1 0) else (inSt ps (i + 1) x.2).s j := fun j => slotsAt j
    let q0 : Claim := ⟨pid i 0, ⟨1, 0, .var (expS c x.1)⟩, v, [b]⟩
    have hq0 : 3000000 ≤ q0.id := by show 3000000 ≤ pid i 0; unfold pid; omega
    refine ⟨q0 :: L, ?_, ?_, ?_, ?_, by simp [l5], fun j hj => ?_, fun g' h' hz hag => ⟨?_, fun j hj => ?_⟩, fun F hp => ⟨fun g' hz cs ho j hj hc => ?_, ?_⟩⟩
    · show [(pid i 0, _)] ++ inH ps (i + 1) x.2 = _
      rw [l1, List.map_cons]; rfl
    · show setH (inSt ps (i + 1) x.2).h [(pid i 0, _)] = setH (fun _ => RE0) ([(pid i 0, _)] ++ inH ps (i + 1) x.2)
      rw [l2]; funext j; rw [setH_append]
    · rw [List.flatMap_cons, l3, hf]; rfl
    · intro q hq
      rcases List.mem_cons.1 hq with rfl | hq
      · rfl
      · exact l4 q hq
    · rw [hs, if_neg (by omega)]; exact l6 j (by omega)
    · have hag2 : Agr g' h' L := fun q hq => hag q (List.mem_cons_of_mem _ hq)
      intro q hq
      rcases List.mem_cons.1 hq with rfl | hq
      · exact ⟨b, vs, ty, hv, rfl, hb, expS_sound (by rw [hz]; exact hh)⟩
      · exact (l7 g' h' hz hag2).1 q hq
    · have hag2 : Agr g' h' L := fun q hq => hag q (List.mem_cons_of_mem _ hq)
      obtain ⟨a1, a2, a3⟩ := hag q0 List.mem_cons_self
      have a1 : h' (pid i 0) = ⟨1, 0, .var (expS c x.1)⟩ := a1
      have a2 : g'.loc (pid i 0) = v := a2
      rw [hs]
      by_cases e : j = i
      · subst e; rw [if_pos rfl, Nat.sub_self, List.getD_cons_zero]
        exact ⟨⟨by rw [a1]; exact Nat.le_refl _, by rw [hv]; rfl⟩, fun _ cs' hc' => ⟨b, by rw [a2]; exact hv, hv⟩⟩
      · rw [if_neg e]
        have := (l7 g' h' hz hag2).2 j (by omega)
        rwa [show j - i = (j - (i + 1)) + 1 by omega, List.getD_cons_succ]
    · rw [hs]
      by_cases e : j = i
      · subst e; rw [if_pos rfl, Nat.sub_self, List.getD_cons_zero]
        exact ⟨hp q0 List.mem_cons_self hq0, b, hv⟩
      · rw [if_neg e]
        have := (l8 F (fun q hq => hp q (by simp [hq]))).1 g' hz cs ho j (by omega) hc
        rwa [show j - i = (j - (i + 1)) + 1 by omega, List.getD_cons_succ]
    · intro σ a w' g' m U B hB r hm hU
      have hm : (match σ.h (pid i 0) with
        | ⟨1, _, .var cs⟩ => match gathAll σ.h .shr c cs with
          | some (y, []) => match mutsOut B σ.h ps (i + 1) with
            | some (z, js) => some ((y, z), pid i 0 :: js)
            | none => none
          | _ => none
        | _ => none) = some ((m : c.den × (mutK ps).den), U) := hm
      split at hm
      case h_2 => cases hm
      rename_i v0 cs hH
      split at hm
      case h_2 => cases hm
      rename_i y1 hg
      split at hm
      case h_2 => cases hm
      rename_i z1 js hmo
      simp only [Option.some.injEq, Prod.mk.injEq] at hm
      obtain ⟨rfl, rfl⟩ := hm
      have hloc : g'.loc (pid i 0) = v := r.pl _ (hp q0 List.mem_cons_self hq0) (by show (σ.h (pid i 0)).inc = 1; rw [hH])
      have hrr := r.rt (pid i 0)
      unfold RR at hrr
      rw [hH, hloc] at hrr
      obtain ⟨b', us', ty', n1, n2, n3, n4⟩ := hrr
      obtain ⟨u1, u2, e1, e2, e3⟩ := gath_shared (d := none) (Z' := g'.Z) r (hok_self σ.h) (fun _ h => h) (gathAll_some hg).1 n4 (by simp)
      have := rest_nil e1 e3
      subst this
      have hU2 := (List.nodup_cons.1 hU).2
      have := (l8 F (fun q hq => hp q (by simp [hq]))).2 (B := B) (fun j hj => by rw [hB j (by omega), hs, if_neg (by omega)]) r hmo hU2
      exact ⟨b', _, ty', js.flatMap g'.fp, by simp [n2], n1, n3, e2, this⟩
  | (.fn _, _) :: _, _, _, [], _, h => h.elim
  | (.imm, _) :: _, _, _, [], _, h => h.elim
  | (.own, _) :: _, _, _, [], _, h => h.elim
  | (.mut, _) :: _, _, _, [], _, h => h.elim
  | (.ptr, _) :: _, _, _, [], _, h => h.elim
  | (.pts, _) :: _, _, _, [], _, h => h.elim
end
end VM
