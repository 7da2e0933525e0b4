/- Arguments and results of calls. -/
import Derived.Test.YtljofbhokcdklaaVMq
set_option linter.unusedVariables false
set_option linter.unusedSimpArgs false
namespace VM
open Go

section
variable {P : Program} {F : Fx} {σ : St} {a : Act} {w : World} {g : Gh} {R : Type} {tt : List (Nat × TD)} {env : List Ct} {k : Nat} {o : Oper} {H : Nat → RE} {K : Upd → Option R} {y : R}

theorem shape_val {v : SV} {u : Value} {c : CK} (hs : v.shape c = true) (hv : SVr g w σ.h v u) (hok : okCs v.cells = true) : u = valV c u.cells.toList := by
  cases v with
  | one cv =>
    have hna : c.isAgg = false := by simpa [SV.shape] using hs
    have hne : cv ≠ .undef := okCs_mem hok cv (by simp [SV.cells])
    have h1 := CVr.one hne hv
    unfold valV
    rw [hna, cells_of_one h1]
    rfl
  | agg vs =>
    have hna : c.isAgg = true := by simpa [SV.shape] using hs
    obtain ⟨us, rfl, _⟩ := hv
    unfold valV
    rw [hna]
    simp [Value.cells]
  | tup xs => simp [SV.shape] at hs

theorem gathV_some {m : Tk} {c : CK} {v : SV} {x : c.den} {ids : List Nat} (h : gathV H m c v = some (x, ids)) : v.shape c = true ∧ gath H m c v.cells = some (x, ids, []) ∧ okCs v.cells = true ∧ v.cells.length = c.size := by
  unfold gathV at h
  obtain ⟨h1, h2⟩ := cond_some h
  exact ⟨h1, gathAll_some h2⟩

theorem rest_nil {us u1 u2 : List Value} (h : us = u1 ++ u2) (h2 : All2 (CVr g w σ.h) [] u2) : us = u1 := by
  cases u2 with
  | nil => simpa using h
  | cons a l => exact h2.elim

/-- New names, in their span. -/
def NwIn (H : Nat → RE) (n n' : Nat) (q : Claim) : Prop := q.re.inc = (H q.id).inc + 1 ∧ n ≤ q.id ∧ q.id < n'

theorem NwIn.mono {n n' m m' : Nat} {q : Claim} (h : NwIn H n n' q) (h1 : m ≤ n) (h2 : n' ≤ m') : NwIn H m m' q := ⟨h.1, by have := h.2.1; omega, by have := h.2.2; omega⟩

theorem expN_sound {Z' : Nat → Prop} {w' : World} {d : Bool} : ∀ {c : CK} {x : c.den} {us : List Value} {fp : List Nat} (n : Nat), HasO Z' w' d c x us fp →
    ∃ L : List Claim, (expN H d c x n).2.1 = L.map Claim.pr ∧ L.flatMap (·.fp) = fp ∧ n ≤ (expN H d c x n).2.2 ∧ (∀ q ∈ L, NwIn H n (expN H d c x n).2.2 q) ∧ (expN H d c x n).1.length = c.size ∧
      (∀ q ∈ L, ∀ g' h', g'.Z = Z' → RR g' w' h' q.re q.loc q.fp) ∧ ∀ g' h', Agr g' h' L → All2 (CVr g' w' h') (expN H d c x n).1 us
  | .int k, x, us, fp, n, h => ⟨[], rfl, by simp [h.2], Nat.le_refl _, by simp, rfl, by simp, fun g' h' _ => by rw [h.1]; exact ⟨rfl, trivial⟩⟩
  | .bool, x, us, fp, n, h => ⟨[], rfl, by simp [h.2], Nat.le_refl _, by simp, rfl, by simp, fun g' h' _ => by rw [h.1]; exact ⟨rfl, trivial⟩⟩
  | .str, x, us, fp, n, h => ⟨[], rfl, by simp [h.2], Nat.le_refl _, by simp, rfl, by simp, fun g' h' _ => by rw [h.1]; exact ⟨rfl, trivial⟩⟩
  | .unit, x, us, fp, n, h => ⟨[], rfl, by simp [h.2], Nat.le_refl _, by simp, rfl, by simp, fun g' h' _ => by rw [h.1]; trivial⟩
  | .sl e, xs, us, fp, n, ⟨v, hu, hr⟩ => by
    refine ⟨[⟨n, ⟨(H n).inc + 1, 0, .row d e xs⟩, v, fp⟩], rfl, by simp, Nat.le_succ _, ?_, rfl, ?_, ?_⟩
    · intro q hq
      simp only [List.mem_singleton] at hq
      subst hq
      exact ⟨rfl, Nat.le_refl _, Nat.lt_succ_self _⟩
    · intro q hq g' h' hz
      simp only [List.mem_singleton] at hq
      subst hq
      show Row g'.Z w' d e xs v fp
      rw [hz]
      exact hr
    · intro g' h' hag
      obtain ⟨a1, a2, a3⟩ := hag _ (List.mem_singleton.2 rfl)
      simp only at a1 a2 a3
      rw [hu]
      refine ⟨⟨⟨by rw [a1]; exact Nat.le_refl _, fun _ => Nat.zero_le _, ?_⟩, fun d' e' xs' hc _ => a2.symm⟩, trivial⟩
      obtain ⟨A, cap, hv, _⟩ := hr
      rw [hv]
      rfl
  | .pair a b, x, us, fp, n, ⟨u1, u2, f1, f2, h1, h2, h3, h4⟩ => by
    obtain ⟨L1, l1, l2, l3, l4, l5, l6, l7⟩ := expN_sound n h3
    obtain ⟨L2, m1, m2, m3, m4, m5, m6, m7⟩ := expN_sound (expN H d a x.1 n).2.2 h4
    refine ⟨L1 ++ L2, ?_, by rw [List.flatMap_append, l2, m2, h2], Nat.le_trans l3 m3, ?_, ?_, ?_, ?_⟩
    · show (expN H d a x.1 n).2.1 ++ (expN H d b x.2 (expN H d a x.1 n).2.2).2.1 = _
      rw [l1, m1, List.map_append]
    · intro q hq
      rcases List.mem_append.1 hq with hq | hq
      · exact (l4 q hq).mono (Nat.le_refl _) m3
      · exact (m4 q hq).mono l3 (Nat.le_refl _)
    · show ((expN H d a x.1 n).1 ++ (expN H d b x.2 (expN H d a x.1 n).2.2).1).length = _
      rw [List.length_append, l5, m5]
      rfl
    · intro q hq
      exact (List.mem_append.1 hq).elim (l6 q) (m6 q)
    · intro g' h' hag
      rw [h1]
      exact (l7 g' h' hag.left).append (m7 g' h' hag.right)

/-- The parts of a result. -/
abbrev PartR (g : Gh) (w : World) (h : Nat → RE) (x : Bool × List CV) (u : Value) : Prop := if x.1 = true then ∃ us, u = .agg us.toArray ∧ All2 (CVr g w h) x.2 us else ∃ v, x.2 = [v] ∧ CVr g w h v u

theorem part_of {g : Gh} {w : World} {h : Nat → RE} {c : CK} {cs : List CV} {us : List Value} (ha : All2 (CVr g w h) cs us) (hl : cs.length = c.size) : PartR g w h (c.isAgg, cs) (valV c us) := by
  unfold PartR valV
  cases hc : c.isAgg with
  | true => exact ⟨us, rfl, ha⟩
  | false =>
    have h1 := size_of_not_agg hc
    rw [h1] at hl
    match cs, us, ha with
    | [v], [u], ⟨h1, _⟩ => exact ⟨v, rfl, h1⟩
    | [], _, _ => simp at hl
    | _ :: _ :: _, _, _ => simp at hl

theorem resOf_sound {Z' : Nat → Prop} {w' : World} : ∀ {rs : List (RM × CK)} {x : (resK rs).den} {vs : List Value} {fp : List Nat} (n : Nat), RessR Z' w' rs x vs fp →
    ∃ L : List Claim, (resOf H rs x n).2.1 = L.map Claim.pr ∧ L.flatMap (·.fp) = fp ∧ n ≤ (resOf H rs x n).2.2 ∧ (∀ q ∈ L, NwIn H n (resOf H rs x n).2.2 q) ∧
      (∀ q ∈ L, ∀ g' h', g'.Z = Z' → RR g' w' h' q.re q.loc q.fp) ∧ ∀ g' h', g'.Z = Z' → Agr g' h' L → All2 (PartR g' w' h') (resOf H rs x n).1 vs
  | [], x, [], fp, n, h => ⟨[], rfl, by simp only [RessR] at h; simp [h], Nat.le_refl _, by simp, by simp, fun _ _ _ _ => trivial⟩
  | [], x, _ :: _, fp, n, h => h.elim
  | (.imm, c) :: rs, x, v :: vs, fp, n, ⟨⟨us, hv, hh⟩, h⟩ => by
    obtain ⟨L, l1, l2, l3, l4, l5, l6⟩ := resOf_sound n h
    refine ⟨L, l1, l2, l3, l4, l5, fun g' h' hz hag => ⟨?_, l6 g' h' hz hag⟩⟩
    rw [hv]
    exact part_of (expS_sound (by rw [hz]; exact hh)) (expS_len c x.1)
  | (.own d, c) :: rs, x, v :: vs, fp, n, ⟨us, f1, f2, hf, hv, hh, h⟩ => by
    obtain ⟨L1, l1, l2, l3, l4, l5, l6, l7⟩ := expN_sound (H := H) n hh
    obtain ⟨L2, m1, m2, m3, m4, m5, m6⟩ := resOf_sound (expN H d c x.1 n).2.2 h
    refine ⟨L1 ++ L2, ?_, by rw [List.flatMap_append, l2, m2, hf], Nat.le_trans l3 m3, ?_, ?_, ?_⟩
    · show (expN H d c x.1 n).2.1 ++ (resOf H rs x.2 (expN H d c x.1 n).2.2).2.1 = _
      rw [l1, m1, List.map_append]
    · intro q hq
      rcases List.mem_append.1 hq with hq | hq
      · exact (l4 q hq).mono (Nat.le_refl _) m3
      · exact (m4 q hq).mono l3 (Nat.le_refl _)
    · intro q hq
      exact (List.mem_append.1 hq).elim (l6 q) (m5 q)
    · intro g' h' hz hag
      refine ⟨?_, m6 g' h' hz hag.right⟩
      rw [hv]
      exact part_of (l7 g' h' hag.left) l5
  | (.pts, c) :: rs, x, v :: vs, fp, n, ⟨b, us, ty, f2, hf, hv, hb, hh, h⟩ => by
    obtain ⟨L, l1, l2, l3, l4, l5, l6⟩ := resOf_sound (n + 1) h
    refine ⟨⟨n, ⟨(H n).inc + 1, 0, .var (expS c x.1)⟩, v, [b]⟩ :: L, ?_, by rw [List.flatMap_cons, l2, hf]; rfl, Nat.le_trans (Nat.le_succ _) l3, ?_, ?_, ?_⟩
    · show (n, _) :: (resOf H rs x.2 (n + 1)).2.1 = _
      rw [l1]; rfl
    · intro q hq
      rcases List.mem_cons.1 hq with rfl | hq
      · exact ⟨rfl, Nat.le_refl _, l3⟩
      · exact (l4 q hq).mono (Nat.le_succ _) (Nat.le_refl _)
    · intro q hq g' h' hz
      rcases List.mem_cons.1 hq with rfl | hq
      · exact ⟨b, us, ty, hv, rfl, hb, expS_sound (by rw [hz]; exact hh)⟩
      · exact l5 q hq g' h' hz
    · intro g' h' hz hag
      obtain ⟨a1, a2, a3⟩ := hag _ List.mem_cons_self
      simp only at a1 a2 a3
      refine ⟨⟨.vptr n ((H n).inc + 1) 0, rfl, ⟨by rw [a1]; exact Nat.le_refl _, by rw [hv]; rfl⟩, fun _ cs hc => ⟨b, by rw [a2]; exact hv, hv⟩⟩, l6 g' h' hz fun q hq => hag q (List.mem_cons_of_mem _ hq)⟩
  | (.imm, _) :: _, x, [], fp, n, h => h.elim
  | (.own _, _) :: _, x, [], fp, n, h => h.elim
  | (.pts, _) :: _, x, [], fp, n, h => h.elim

theorem retSV_sound {g : Gh} {w : World} {h : Nat → RE} : ∀ {xs : List (Bool × List CV)} {vs : List Value}, All2 (PartR g w h) xs vs → SVr g w h (retSV xs) (retVal vs)
  | [], [], _ => ⟨[], rfl, trivial⟩
  | [(true, cs)], [v], ⟨h1, _⟩ => by
    obtain ⟨us, e1, e2⟩ := h1
    exact ⟨us, e1, e2⟩
  | [(false, cs)], [v], ⟨h1, _⟩ => by
    obtain ⟨u, e1, e2⟩ := h1
    simp only at e1
    subst e1
    exact e2
  | x :: y :: xs, u :: v :: vs, h => by
    have : retSV (x :: y :: xs) = .tup (x :: y :: xs) := by
      obtain ⟨b, cs⟩ := x
      cases b
      · rcases cs with _ | ⟨c, _ | _⟩ <;> rfl
      · rfl
    rw [this]
    exact ⟨u :: v :: vs, rfl, h⟩
  | [], _ :: _, h => h.elim
  | _ :: _, [], h => h.elim
  | [_], _ :: _ :: _, h => h.2.elim
  | _ :: _ :: _, [_], h => h.2.elim

/-- What a call has written: the roots' new contents. -/
structure UpdL (σ : St) (g : Gh) (H : Nat → RE) (n n' : Nat) (U I f fp' : List Nat) (L : List Claim) (Z' : Nat → Prop) (w' : World) : Prop where
  kind : ∀ q ∈ L, NwIn H n n' q ∨ (IsUpd σ g q ∧ q.id ∈ U)
  has : ∀ id ∈ U, ∃ q ∈ L, q.id = id
  mem : ∀ q ∈ L, ∀ b ∈ q.fp, b ∈ fp' ∨ (b ∈ g.fp q.id ∧ q.id ∈ U ∧ b ∉ f)
  nd : fp'.Nodup → (∀ b ∈ fp', (∃ id ∈ I, b ∈ g.fp id) → b ∈ f) → (L.flatMap (·.fp)).Nodup
  rr : ∀ g' h', g'.Z = Z' → Agr g' h' L → ∀ q ∈ L, RR g' w' h' q.re q.loc q.fp

theorem UpdL.append (r : Rl F σ a w g) {n n1 n2 : Nat} {U1 U2 I1 I2 f1 f2 p1 p2 : List Nat} {L1 L2 : List Claim} {Z' : Nat → Prop} {w' : World} (h1 : UpdL σ g H n n1 U1 I1 f1 p1 L1 Z' w') (h2 : UpdL σ g H n1 n2 U2 I2 f2 p2 L2 Z' w')
    (hn1 : n ≤ n1) (hn2 : n1 ≤ n2) (hI : (I1 ++ I2).Nodup) (hU1 : ∀ id ∈ U1, id ∈ I1) (hU2 : ∀ id ∈ U2, id ∈ I2) (hf1 : ∀ b ∈ f1, ∃ id ∈ I1, b ∈ g.fp id) (hf2 : ∀ b ∈ f2, ∃ id ∈ I2, b ∈ g.fp id) :
    UpdL σ g H n n2 (U1 ++ U2) (I1 ++ I2) (f1 ++ f2) (p1 ++ p2) (L1 ++ L2) Z' w' := by
  have hdis := (List.nodup_append.1 hI).2.2
  have x12 : ∀ id ∈ I1, ∀ b ∈ g.fp id, b ∉ f2 := by
    intro id hid b hb hm
    obtain ⟨id2, h3, h4⟩ := hf2 b hm
    exact hdis id hid id2 h3 (r.dj id id2 b hb h4)
  have x21 : ∀ id ∈ I2, ∀ b ∈ g.fp id, b ∉ f1 := by
    intro id hid b hb hm
    obtain ⟨id2, h3, h4⟩ := hf1 b hm
    exact hdis id2 h3 id hid (r.dj id2 id b h4 hb)
  refine ⟨?_, ?_, ?_, ?_, ?_⟩
  · intro q hq
    rcases List.mem_append.1 hq with hq | hq
    · exact (h1.kind q hq).imp (fun h => h.mono (Nat.le_refl _) hn2) (fun h => ⟨h.1, by simp [h.2]⟩)
    · exact (h2.kind q hq).imp (fun h => h.mono hn1 (Nat.le_refl _)) (fun h => ⟨h.1, by simp [h.2]⟩)
  · intro id hid
    rcases List.mem_append.1 hid with hid | hid
    · obtain ⟨q, k1, k2⟩ := h1.has id hid; exact ⟨q, by simp [k1], k2⟩
    · obtain ⟨q, k1, k2⟩ := h2.has id hid; exact ⟨q, by simp [k1], k2⟩
  · intro q hq b hb
    rcases List.mem_append.1 hq with hq | hq
    · rcases h1.mem q hq b hb with h | ⟨k1, k2, k3⟩
      · exact .inl (by simp [h])
      · exact .inr ⟨k1, by simp [k2], by rw [List.mem_append, not_or]; exact ⟨k3, x12 _ (hU1 _ k2) b k1⟩⟩
    · rcases h2.mem q hq b hb with h | ⟨k1, k2, k3⟩
      · exact .inl (by simp [h])
      · exact .inr ⟨k1, by simp [k2], by rw [List.mem_append, not_or]; exact ⟨x21 _ (hU2 _ k2) b k1, k3⟩⟩
  · intro hnd hin
    have hp := List.nodup_append.1 hnd
    rw [List.flatMap_append]
    refine List.nodup_append.2 ⟨h1.nd hp.1 fun b hb ⟨id, k1, k2⟩ => ?_, h2.nd hp.2.1 fun b hb ⟨id, k1, k2⟩ => ?_, ?_⟩
    · rcases List.mem_append.1 (hin b (by simp [hb]) ⟨id, by simp [k1], k2⟩) with h | h
      · exact h
      · exact (x12 id k1 b k2 h).elim
    · rcases List.mem_append.1 (hin b (by simp [hb]) ⟨id, by simp [k1], k2⟩) with h | h
      · exact (x21 id k1 b k2 h).elim
      · exact h
    · rintro b k1 b' k2 rfl
      obtain ⟨q1, m1, m2⟩ := List.mem_flatMap.1 k1
      obtain ⟨q2, m3, m4⟩ := List.mem_flatMap.1 k2
      rcases h1.mem q1 m1 b m2 with c1 | ⟨c1, c2, c3⟩ <;> rcases h2.mem q2 m3 b m4 with d1 | ⟨d1, d2, d3⟩
      · exact hp.2.2 b c1 b d1 rfl
      · rcases List.mem_append.1 (hin b (by simp [c1]) ⟨q2.id, by simp [hU2 _ d2], d1⟩) with h | h
        · exact x21 _ (hU2 _ d2) b d1 h
        · exact d3 h
      · rcases List.mem_append.1 (hin b (by simp [d1]) ⟨q1.id, by simp [hU1 _ c2], c1⟩) with h | h
        · exact c3 h
        · exact x12 _ (hU1 _ c2) b c1 h
      · have := r.dj q1.id q2.id b c1 d1
        exact hdis q1.id (hU1 _ c2) q2.id (hU2 _ d2) this
  · intro g' h' hz hag q hq
    exact (List.mem_append.1 hq).elim (h1.rr g' h' hz hag.left q) (h2.rr g' h' hz hag.right q)

/-- What is lent to be written: it is owned; and what becomes of it. -/
structure MutP (F : Fx) (σ : St) (w : World) (g : Gh) (H : Nat → RE) (c : CK) (cs : List CV) (x : c.den) (ids : List Nat) (rest : List CV) (us u1 u2 : List Value) (f : List Nat) : Prop where
  eq : us = u1 ++ u2
  len : u1.length = c.size
  has : Has g.Z w true c x u1 f
  nd : f.Nodup
  sub : ∀ b ∈ f, ∃ id ∈ ids, b ∈ g.fp id
  tl : All2 (CVr g w σ.h) rest u2
  upd : ∀ {y : c.den} {h1 : List (Nat × RE)} {rest' : List CV}, updM H c cs y = some (h1, rest') → ∀ {Z' : Nat → Prop} {w' : World} {fp' : List Nat}, Has Z' w' true c y u1 fp' → (∀ b, g.Z b → w'.heap[b]? = w.heap[b]?) → (∀ b, g.Z b → Z' b) →
    (∀ id ∈ ids, ∀ b ∈ g.fp id, b ∉ f → w'.heap[b]? = w.heap[b]?) → rest' = rest ∧ ∃ L : List Claim, h1 = L.map Claim.pr ∧ ∀ n, UpdL σ g H n n ids ids f fp' L Z' w'

theorem UpdL.nil {n : Nat} {I f : List Nat} {Z' : Nat → Prop} {w' : World} : UpdL σ g H n n [] I f [] [] Z' w' := ⟨by simp, by simp, by simp, by simp, by simp⟩

theorem gath_mut (r : Rl F σ a w g) (hH : HOk H σ.h o.dst) : ∀ {c : CK} {cs : List CV} {x : c.den} {ids : List Nat} {rest : List CV}, gath H .mutm c cs = some (x, ids, rest) → ids.Nodup → ∀ {us : List Value}, All2 (CVr g w σ.h) cs us →
    ∃ u1 u2 f, MutP F σ w g H c cs x ids rest us u1 u2 f := by
  intro c
  induction c with
  | int kk =>
    intro cs x ids rest hg hnd us ha
    cases cs with
    | nil => simp [gath] at hg
    | cons v r' =>
      cases v <;> simp only [gath] at hg <;> try cases hg
      split at hg <;> try cases hg
      rename_i hk
      subst hk
      match us, ha with
      | u :: us, ⟨h1, ha⟩ =>
        refine ⟨[u], us, [], rfl, rfl, ⟨by rw [show u = _ from h1], rfl⟩, by simp, by simp, ha, fun hu _ _ _ hy _ _ _ => ?_⟩
        simp only [updM, Option.some.injEq, Prod.mk.injEq] at hu
        obtain ⟨rfl, rfl⟩ := hu
        exact ⟨rfl, [], rfl, fun n => by rw [hy.2]; exact UpdL.nil⟩
  | bool =>
    intro cs x ids rest hg hnd us ha
    cases cs with
    | nil => simp [gath] at hg
    | cons v r' =>
      cases v <;> simp only [gath] at hg <;> try cases hg
      match us, ha with
      | u :: us, ⟨h1, ha⟩ =>
        refine ⟨[u], us, [], rfl, rfl, ⟨by rw [show u = _ from h1], rfl⟩, by simp, by simp, ha, fun hu _ _ _ hy _ _ _ => ?_⟩
        simp only [updM, Option.some.injEq, Prod.mk.injEq] at hu
        obtain ⟨rfl, rfl⟩ := hu
        exact ⟨rfl, [], rfl, fun n => by rw [hy.2]; exact UpdL.nil⟩
  | str =>
    intro cs x ids rest hg hnd us ha
    cases cs with
    | nil => simp [gath] at hg
    | cons v r' =>
      cases v <;> simp only [gath] at hg <;> try cases hg
      match us, ha with
      | u :: us, ⟨h1, ha⟩ =>
        refine ⟨[u], us, [], rfl, rfl, ⟨by rw [show u = _ from h1], rfl⟩, by simp, by simp, ha, fun hu _ _ _ hy _ _ _ => ?_⟩
        simp only [updM, Option.some.injEq, Prod.mk.injEq] at hu
        obtain ⟨rfl, rfl⟩ := hu
        exact ⟨rfl, [], rfl, fun n => by rw [hy.2]; exact UpdL.nil⟩
  | unit =>
    intro cs x ids rest hg hnd us ha
    have hg' : some ((), ([] : List Nat), cs) = some (x, ids, rest) := by cases cs <;> exact hg
    simp only [Option.some.injEq, Prod.mk.injEq] at hg'
    obtain ⟨_, rfl, rfl⟩ := hg'
    refine ⟨[], us, [], rfl, rfl, ⟨rfl, rfl⟩, by simp, by simp, ha, ?_⟩
    intro y0 h0 r0 hu Z0 w0 fp0 hy _ _ _
    have hu' : some (([] : List (Nat × RE)), cs) = some (h0, r0) := by cases cs <;> exact hu
    simp only [Option.some.injEq, Prod.mk.injEq] at hu'
    obtain ⟨rfl, rfl⟩ := hu'
    exact ⟨rfl, [], rfl, fun n => by rw [hy.2]; exact UpdL.nil⟩
  | sl e =>
    intro cs x ids rest hg hnd us ha
    cases cs with
    | nil => simp [gath] at hg
    | cons v r' =>
      have hg' : (match slOf H .mutm v e with | some (xs, ids) => some (xs, ids, r') | none => none) = some (x, ids, rest) := hg
      clear hg
      cases hs : slOf H .mutm v e with
      | none => rw [hs] at hg'; cases hg'
      | some q =>
        rw [hs] at hg'
        obtain ⟨xs, ids'⟩ := q
        simp only [Option.some.injEq, Prod.mk.injEq] at hg'
        obtain ⟨rfl, rfl, rfl⟩ := hg'
        match us, ha with
        | u :: us, ⟨hu1, ha2⟩ =>
          cases v with
          | nil =>
            simp only [slOf, Option.some.injEq, Prod.mk.injEq] at hs
            obtain ⟨rfl, rfl⟩ := hs
            have hun : u = .slice none 0 0 := hu1
            subst hun
            refine ⟨[_], us, [], rfl, rfl, ⟨_, rfl, .inl ⟨rfl, none, 0, rfl, Nat.le_refl _, .inl ⟨rfl, rfl, rfl, rfl⟩⟩⟩, by simp, by simp, ha2, fun hu _ _ _ hy _ _ _ => ?_⟩
            simp only [updM, Option.some.injEq, Prod.mk.injEq] at hu
            obtain ⟨rfl, rfl⟩ := hu
            obtain ⟨v', hv', hh⟩ := hy
            simp only [List.cons.injEq, and_true] at hv'
            subst hv'
            rcases hh with ⟨_, A, cap, hv, hc, hm⟩ | ⟨hc, _⟩
            case inr => cases hc
            rcases hm with ⟨_, h, _⟩ | ⟨b, off, vs, fs, hA, _⟩
            · exact ⟨rfl, [], rfl, fun n => by rw [h]; exact UpdL.nil⟩
            · rw [hA] at hv; cases hv
          | row id inc ver p =>
            simp only [slOf] at hs
            split at hs
            case h_2 => cases hs
            rename_i R hR
            split at hs
            case h_2 => cases hs
            rename_i ys hy
            obtain ⟨hck, hs⟩ := cond_some hs
            simp only [Option.some.injEq, Prod.mk.injEq] at hs
            obtain ⟨rfl, rfl⟩ := hs
            obtain ⟨d', zs, rfl, rfl⟩ := Row1.as_some hy
            simp only at hck
            obtain ⟨k1, k2, k3, e0, xs0, k4, k5⟩ := rowAt_sound r hH hR
            simp only at k3 k4 k5
            have hrow0 : Row g.Z w d' e0 xs0 (g.loc id) (g.fp id) := by
              have := r.rt id
              unfold RR at this
              rw [k4] at this
              exact this
            have hat : RowAt w e0 (g.loc id) p u := hu1.2 d' e0 xs0 k4 ⟨k2.symm, k3⟩
            obtain ⟨f1, fm, f2, q1, q2, q3⟩ := RowOwn.focus (by rcases k3 with h | h; exact .inr h; exact .inl h.2) hrow0 hat k5
            have hnodup := r.nd id
            rw [q1] at hnodup
            have q2' : Row g.Z w true e ys u fm := by
              rw [Bool.or_eq_true] at hck
              rcases hck with h | h
              · rw [h] at q2; exact q2
              · exact Row.deep_of_flat h q2
            refine ⟨[u], us, fm, rfl, rfl, ⟨u, rfl, .inl ⟨rfl, q2'⟩⟩, (List.nodup_append.1 (List.nodup_append.1 hnodup).2.1).1, fun b hb => ⟨id, by simp, by rw [q1]; simp [hb]⟩, ha2, ?_⟩
            intro yv h1 rest' hu Z' w' fp' hyv hz hzz hkeep
            have hu' : (match H id with
              | ⟨i, v, .row d e0 xs⟩ => bif Nat.beq i inc && (d || e.flat) then (match setRow e0 xs p e yv with | some zs => some ([(id, (⟨i, v + 1, .row d e0 zs⟩ : RE))], r') | none => none) else none
              | _ => none) = some (h1, rest') := hu
            clear hu
            have hHid : H id = ⟨(σ.h id).inc, (σ.h id).ver, .row d' e0 xs0⟩ := by rw [k1, ← k4]
            rw [hHid] at hu'
            simp only at hu'
            obtain ⟨_, hu'⟩ := cond_some hu'
            obtain ⟨v', hv', hh⟩ := hyv
            simp only [List.cons.injEq, and_true] at hv'
            subst hv'
            rcases hh with ⟨_, hrowy⟩ | ⟨hc, _⟩
            case inr => cases hc
            have hrowy' : Row Z' w' d' e yv u fp' := by
              rw [Bool.or_eq_true] at hck
              rcases hck with h | h
              · rw [h]; exact hrowy
              · exact Row.deep_of_flat h hrowy
            have hdis : ∀ b, b ∈ f1 ∨ b ∈ f2 → b ∉ fm := by
              intro b hb hm
              simp only [List.nodup_append, List.mem_append] at hnodup
              rcases hb with hb | hb
              · exact hnodup.2.2 b hb b (.inl hm) rfl
              · exact hnodup.2.1.2.2 b hm b hb rfl
            obtain ⟨xs', hxs', hrow2⟩ := q3 Z' w' yv fp' hz hzz (fun b hb => hkeep id (by simp) b (by rw [q1]; rcases hb with hb | hb <;> simp [hb]) (hdis b hb)) hrowy'
            rw [hxs'] at hu'
            simp only [Option.some.injEq, Prod.mk.injEq] at hu'
            obtain ⟨rfl, rfl⟩ := hu'
            refine ⟨rfl, [⟨id, ⟨(σ.h id).inc, (σ.h id).ver + 1, .row d' e0 xs'⟩, g.loc id, f1 ++ (fp' ++ f2)⟩], rfl, fun n => ⟨?_, ?_, ?_, ?_, ?_⟩⟩
            · intro q hq
              simp only [List.mem_singleton] at hq
              subst hq
              refine .inr ⟨⟨rfl, Nat.le_succ _, rfl, ?_, fun hv => by simp at hv⟩, by simp⟩
              rw [k4]
              exact ⟨fun d e xs h => by cases h; exact ⟨xs0, rfl⟩, fun cs h => (by cases h), fun k e xs h => (by cases h)⟩
            · intro i hi
              simp only [List.mem_singleton] at hi
              subst hi
              exact ⟨_, List.mem_singleton.2 rfl, rfl⟩
            · intro q hq b hb
              simp only [List.mem_singleton] at hq
              subst hq
              simp only [List.mem_append] at hb
              rcases hb with hb | hb | hb
              · exact .inr ⟨by rw [q1]; simp [hb], by simp, hdis b (.inl hb)⟩
              · exact .inl hb
              · exact .inr ⟨by rw [q1]; simp [hb], by simp, hdis b (.inr hb)⟩
            · intro hn hin
              simp only [List.flatMap_cons, List.flatMap_nil, List.append_nil]
              have hx : ∀ b ∈ fp', b ∉ f1 ∧ b ∉ f2 := by
                intro b hb
                refine ⟨fun h => hdis b (.inl h) (hin b hb ⟨id, by simp, by rw [q1]; simp [h]⟩), fun h => hdis b (.inr h) (hin b hb ⟨id, by simp, by rw [q1]; simp [h]⟩)⟩
              have h12 := List.nodup_append.1 hnodup
              have h23 := List.nodup_append.1 h12.2.1
              refine List.nodup_append.2 ⟨h12.1, List.nodup_append.2 ⟨hn, h23.2.1, ?_⟩, ?_⟩
              · rintro b hb b' hb' rfl
                exact (hx b hb).2 hb'
              · rintro b hb b' hb' rfl
                rcases List.mem_append.1 hb' with hb' | hb'
                · exact (hx b hb').1 hb
                · exact h12.2.2 b hb b (by simp [hb']) rfl
            · intro g' h' hzq _ q hq
              simp only [List.mem_singleton] at hq
              subst hq
              show Row g'.Z w' d' e0 xs' (g.loc id) (f1 ++ (fp' ++ f2))
              rw [hzq]
              exact hrow2
          | sl e' ys => simp [slOf] at hs
          | undef | int | bool | str | rp | fn | vptr | rsub | ptr | map => simp [slOf] at hs
  | pair p q ihp ihq =>
    intro cs x ids rest hg hnd us ha
    have hg' : (match gath H .mutm p cs with
      | some (x, i1, r1) => match gath H .mutm q r1 with
        | some (y, i2, r2) => some ((x, y), i1 ++ i2, r2)
        | none => none
      | none => none) = some (x, ids, rest) := by
        cases cs <;> exact hg
    clear hg
    split at hg'
    case h_2 => cases hg'
    rename_i x1 i1 r1 hp
    split at hg'
    case h_2 => cases hg'
    rename_i x2 i2 r2 hq
    simp only [Option.some.injEq, Prod.mk.injEq] at hg'
    obtain ⟨rfl, rfl, rfl⟩ := hg'
    obtain ⟨u1, u2, f, m⟩ := ihp hp (List.nodup_append.1 hnd).1 ha
    obtain ⟨v1, v2, f', m'⟩ := ihq hq (List.nodup_append.1 hnd).2.1 m.tl
    have hdis := (List.nodup_append.1 hnd).2.2
    have x12 : ∀ id ∈ i1, ∀ b ∈ g.fp id, b ∉ f' := by
      intro id hid b hb hm
      obtain ⟨id2, h3, h4⟩ := m'.sub b hm
      exact hdis id hid id2 h3 (r.dj id id2 b hb h4)
    have x21 : ∀ id ∈ i2, ∀ b ∈ g.fp id, b ∉ f := by
      intro id hid b hb hm
      obtain ⟨id2, h3, h4⟩ := m.sub b hm
      exact hdis id2 h3 id hid (r.dj id2 id b h4 hb)
    refine ⟨u1 ++ v1, v2, f ++ f', by rw [m.eq, m'.eq, List.append_assoc], by rw [List.length_append, m.len, m'.len]; rfl, ⟨u1, v1, f, f', rfl, rfl, m.has, m'.has⟩, ?_, ?_, m'.tl, ?_⟩
    · refine List.nodup_append.2 ⟨m.nd, m'.nd, ?_⟩
      rintro b h1 b' h2 rfl
      obtain ⟨id, h3, h4⟩ := m.sub b h1
      exact x12 id h3 b h4 h2
    · intro b hb
      rcases List.mem_append.1 hb with hb | hb
      · obtain ⟨id, h1, h2⟩ := m.sub b hb; exact ⟨id, by simp [h1], h2⟩
      · obtain ⟨id, h1, h2⟩ := m'.sub b hb; exact ⟨id, by simp [h1], h2⟩
    · intro yv h1 rest' hu Z' w' fp' hyv hz hzz hkeep
      have hu' : (match updM H p cs yv.1 with
        | some (h1, r1) => match updM H q r1 yv.2 with
          | some (h2, r2) => some (h1 ++ h2, r2)
          | none => none
        | none => none) = some (h1, rest') := by
          cases cs <;> exact hu
      clear hu
      split at hu'
      case h_2 => cases hu'
      rename_i ha1 ra1 hup
      split at hu'
      case h_2 => cases hu'
      rename_i ha2 ra2 huq
      simp only [Option.some.injEq, Prod.mk.injEq] at hu'
      obtain ⟨rfl, rfl⟩ := hu'
      obtain ⟨w1, w2, g1, g2, e1, rfl, hy1, hy2⟩ := hyv
      have hsplit : u1 = w1 ∧ v1 = w2 := by
        have hl : u1.length = w1.length := by rw [m.len, hy1.len]
        exact List.append_inj e1 hl
      obtain ⟨rfl, rfl⟩ := hsplit
      obtain ⟨rfl, L1, l1, l2⟩ := m.upd hup hy1 hz hzz (fun id hid b hb hn => hkeep id (by simp [hid]) b hb (by rw [List.mem_append, not_or]; exact ⟨hn, x12 id hid b hb⟩))
      obtain ⟨rfl, L2, m1, m2⟩ := m'.upd huq hy2 hz hzz (fun id hid b hb hn => hkeep id (by simp [hid]) b hb (by rw [List.mem_append, not_or]; exact ⟨x21 id hid b hb, hn⟩))
      exact ⟨rfl, L1 ++ L2, by rw [l1, m1, List.map_append], fun n => (l2 n).append r (m2 n) (Nat.le_refl _) (Nat.le_refl _) hnd (fun _ h => h) (fun _ h => h) m.sub m'.sub⟩
end
end VM
