/- Joins: whole states. -/
import Derived.Test.YtljofbhokcdklaaVMx
set_option linter.unusedVariables false
set_option linter.unusedSimpArgs false
namespace VM
open Go

section
variable {P : Program} {F : Fx} {σ : St} {a : Act} {w : World} {g : Gh} {R : Type} {o : Oper}

def MapOk (σ : St) (g : Gh) (m : List (Nat × Nat)) (g' : Gh) (h' : Nat → RE) : Prop := ∀ p ∈ m, g'.loc (uid p.1 0) = g.loc p.2 ∧ 1 ≤ (h' (uid p.1 0)).inc ∧ ∃ cs, (σ.h p.2).c = .var cs

theorem look_mem {α : Type} : ∀ {l : List (Nat × α)} {i : Nat} {x : α}, look l i = some x → (i, x) ∈ l
  | [], _, _, h => by cases h
  | (t, y) :: l, i, x, h => by
    simp only [look] at h
    cases hb : Nat.beq t i with
    | true =>
      rw [hb] at h
      simp only [cond_true, Option.some.injEq] at h
      subst h
      rw [Nat.eq_of_beq_eq_true hb]
      simp
    | false =>
      rw [hb] at h
      exact List.mem_cons_of_mem _ (look_mem h)

/-- A variable, over the pieces of its cells. -/
theorem Pc.var (r : Rl F σ a w g) {id nm b : Nat} {us : List Value} {ty : TypeId} {ids : List Nat} {L : List Claim} {vs : List CV} (hnd : (id :: ids).Nodup)
    (h1 : g.loc id = .pointer (some ⟨b, 0, none⟩)) (h2 : g.fp id = [b]) (h3 : w.heap[b]? = some (.cells us.toArray ty (0, 0)))
    (hnm : nm < pLim ∨ ((σ.h nm).inc = 1 ∧ g.loc id = g.loc nm)) (p : Pc F σ w g ids L (fun g' h' => All2 (CVr g' w h') vs us)) :
    Pc F σ w g (id :: ids) (⟨nm, ⟨1, 0, .var vs⟩, g.loc id, g.fp id⟩ :: L) (fun g' h' => g'.loc nm = g.loc id ∧ (h' nm).inc = 1) := by
  rw [List.nodup_cons] at hnd
  have hdis : ∀ id2 ∈ ids, ∀ b ∈ g.fp id2, b ∉ g.fp id := by
    intro id2 h5 b hb hb2
    have := r.dj id2 id b hb hb2
    subst this
    exact hnd.1 h5
  refine ⟨?_, ?_, ?_, ?_, ?_⟩
  · intro q hq b hb
    rcases List.mem_cons.1 hq with rfl | hq
    · exact ⟨id, by simp, hb⟩
    · obtain ⟨id2, h5, h6⟩ := p.sub q hq b hb
      exact ⟨id2, by simp [h5], h6⟩
  · rw [List.flatMap_cons]
    refine List.nodup_append.2 ⟨r.nd id, p.nd, ?_⟩
    rintro b h5 b' h6 rfl
    obtain ⟨q, h7, h8⟩ := List.mem_flatMap.1 h6
    obtain ⟨id2, h9, h10⟩ := p.sub q h7 b h8
    exact hdis id2 h9 b h10 h5
  · intro q hq
    rcases List.mem_cons.1 hq with rfl | hq
    · rfl
    · exact p.inc q hq
  · intro q hq
    rcases List.mem_cons.1 hq with rfl | hq
    · exact hnm
    · exact p.nm q hq
  · intro g' h' hz hid hag
    obtain ⟨a1, a2, a3⟩ := hag _ List.mem_cons_self
    simp only at a1 a2 a3
    obtain ⟨k1, k2⟩ := p.good g' h' hz (fun id2 h5 b hb hm => hid id2 (by simp [h5]) b hb (by
      rw [List.flatMap_cons, List.mem_append, not_or]
      exact ⟨hdis id2 h5 b hb, hm⟩)) (fun q hq => hag q (List.mem_cons_of_mem _ hq))
    refine ⟨⟨a2, by rw [a1]⟩, fun q hq => ?_⟩
    rcases List.mem_cons.1 hq with rfl | hq
    · exact ⟨b, us, ty, h1, h2, h3, k1⟩
    · exact k2 q hq

theorem uid_lt {i n : Nat} (hi : i < 40000) (hn : n < 1000) : uid i 1 + n < pLim := by
  unfold uid pLim
  omega

theorem packS_sound (r : Rl F σ a w g) {i : Nat} (hi : i < 40000) {s : LS} (hs : s.len < 1000) {m : List (Nat × Nat)} {v : SV} {u : Value} {x : s.ck.den} {ids : List Nat} {m' : List (Nat × Nat)}
    (h : packS σ.h m i v s = some (x, ids, m')) (hv : SVr g w σ.h v u) (hnd : ids.Nodup) :
    ∃ L : List Claim, (unS i s x).2 = L.map Claim.pr ∧ Pc F σ w g ids L (fun g' h' => MapOk σ g m g' h' → SVr g' w h' (unS i s x).1 u) ∧ (∀ g' h', Agr g' h' L → MapOk σ g m g' h' → MapOk σ g m' g' h') := by
  have hlt0 : uid i 0 < pLim := by have := uid_lt hi (show 0 < 1000 by omega); unfold uid at *; omega
  cases s with
  | one c =>
    unfold packS at h
    dsimp only at h
    split at h
    case h_2 => cases h
    rename_i cv
    split at h
    case h_2 => cases h
    rename_i x1 i1 hc
    simp only [Option.some.injEq, Prod.mk.injEq] at h
    obtain ⟨rfl, rfl, rfl⟩ := h
    obtain ⟨L, l1, l2⟩ := packC_sound r hlt0 hc hv
    exact ⟨L, l1, l2.mono fun g' h' _ hg _ => hg, fun _ _ _ h => h⟩
  | agg cs =>
    unfold packS at h
    dsimp only at h
    split at h
    case h_2 => cases h
    rename_i vs
    split at h
    case h_2 => cases h
    rename_i x1 i1 hc
    simp only [Option.some.injEq, Prod.mk.injEq] at h
    obtain ⟨rfl, rfl, rfl⟩ := h
    obtain ⟨us, rfl, hus⟩ := hv
    obtain ⟨_, L, l1, l2⟩ := packCs_sound r (n := uid i 0) (by have := uid_lt hi hs; simp only [LS.len] at this; unfold uid at *; omega) hc hus hnd
    exact ⟨L, l1, l2.mono fun g' h' _ hg _ => ⟨us, rfl, hg⟩, fun _ _ _ h => h⟩
  | var cs =>
    unfold packS at h
    dsimp only at h
    split at h
    case h_2 => cases h
    rename_i id inc
    split at h
    case h_2 => cases h
    rename_i vs hvs
    split at h
    case h_2 => cases h
    rename_i x1 i1 hc
    simp only [Option.some.injEq, Prod.mk.injEq] at h
    obtain ⟨rfl, rfl, rfl⟩ := h
    obtain ⟨k1, k2, k3⟩ := varAt_sound (o := ⟨none, .alloc 0, 0, default, #[], none⟩) r (hok_self σ.h) hvs
    obtain ⟨b, hloc, hptr⟩ := hv.2 k2 vs k3
    have hnd' := List.nodup_cons.1 hnd
    have hrr := r.rt id
    unfold RR at hrr
    rw [k3] at hrr
    obtain ⟨b', us, ty, m1, m2, m3, m4⟩ := hrr
    obtain ⟨hl, L, l1, l2⟩ := packCs_sound r (n := uid i 1) (uid_lt hi hs) hc m4 hnd'.2
    refine ⟨⟨uid i 0, ⟨1, 0, .var (unCs (uid i 1) cs x).1⟩, g.loc id, g.fp id⟩ :: L, ?_, (Pc.var r hnd m1 m2 m3 (.inl hlt0) l2).mono fun g' h' _ hg _ => ?_, ?_⟩
    · show (uid i 0, _) :: (unCs (uid i 1) cs x).2 = _
      rw [l1]
      rfl
    · refine ⟨⟨by rw [hg.2]; exact Nat.le_refl _, by rw [hptr]; rfl⟩, fun _ cs' hc' => ⟨b, by rw [hg.1]; exact hloc, hptr⟩⟩
    · intro g' h' hag hm p hp
      rcases List.mem_cons.1 hp with rfl | hp
      · obtain ⟨a1, a2, a3⟩ := hag _ List.mem_cons_self
        simp only at a1 a2 a3
        exact ⟨a2, by rw [a1]; exact Nat.le_refl _, vs, k3⟩
      · exact hm p hp
  | vp j =>
    unfold packS at h
    dsimp only at h
    split at h
    case h_2 => cases h
    rename_i id inc id' hl
    obtain ⟨hck, h2⟩ := cond_some h
    clear h
    rw [Bool.and_eq_true] at hck
    have he := Nat.eq_of_beq_eq_true hck.1
    have hi2 := Nat.eq_of_beq_eq_true hck.2
    subst he
    obtain ⟨_, h2⟩ := Prod.mk.inj (Option.some.inj h2)
    obtain ⟨rfl, rfl⟩ := Prod.mk.inj h2
    refine ⟨[], rfl, Pc.nil fun g' h' _ hm => ?_, fun _ _ _ h => h⟩
    obtain ⟨a1, a2, cs, a3⟩ := hm _ (look_mem hl)
    simp only at a1 a2 a3
    obtain ⟨b, hloc, hptr⟩ := hv.2 hi2.symm cs a3
    exact ⟨⟨a2, by rw [hptr]; rfl⟩, fun _ cs' hc' => ⟨b, by rw [a1]; exact hloc, hptr⟩⟩
  | fn f =>
    unfold packS at h
    dsimp only at h
    split at h
    case h_2 => cases h
    obtain ⟨hck, h2⟩ := cond_some h
    clear h
    have he := Nat.eq_of_beq_eq_true hck
    subst he
    obtain ⟨_, h2⟩ := Prod.mk.inj (Option.some.inj h2)
    obtain ⟨rfl, rfl⟩ := Prod.mk.inj h2
    exact ⟨[], rfl, Pc.nil fun g' h' _ hm => hv, fun _ _ _ h => h⟩
  | pm c =>
    unfold packS at h
    dsimp only at h
    obtain ⟨hck, h⟩ := cond_some h
    rw [Bool.and_eq_true] at hck
    split at h
    case h_2 => cases h
    rename_i x1 i1 n1 hc
    simp only [Option.some.injEq, Prod.mk.injEq] at h
    obtain ⟨rfl, rfl, rfl⟩ := h
    obtain ⟨L, u1, u2, e1, e2, e3, e4, _, e6, e7⟩ := contP_sound r hc (hv.cells hck.1) hnd
    have := rest_nil e1 e2
    subst this
    refine ⟨L, e3, e7.mono fun g' h' _ hg _ => ?_, fun _ _ _ h => h⟩
    rw [shape_val hck.2 hv hck.1]
    exact toSV_sound hg e6
  | pp cs =>
    unfold packS at h
    dsimp only at h
    split at h
    case h_2 => cases h
    rename_i id
    obtain ⟨hck, h⟩ := cond_some h
    have he := Nat.eq_of_beq_eq_true hck
    subst he
    split at h
    case h_2 => cases h
    rename_i v0 vs hH
    split at h
    case h_2 => cases h
    rename_i x1 i1 hc
    simp only [Option.some.injEq, Prod.mk.injEq] at h
    obtain ⟨rfl, rfl, rfl⟩ := h
    have hnd' := List.nodup_cons.1 hnd
    have hrr := r.rt (pid i 0)
    unfold RR at hrr
    rw [hH] at hrr
    obtain ⟨b, us, ty, m1, m2, m3, m4⟩ := hrr
    obtain ⟨hl, L, l1, l2⟩ := packCs_sound r (n := uid i 1) (uid_lt hi hs) hc m4 hnd'.2
    obtain ⟨b', hloc, hptr⟩ := hv.2 (by rw [hH]) vs (by rw [hH])
    refine ⟨⟨pid i 0, ⟨1, 0, .var (unCs (uid i 1) cs x).1⟩, g.loc (pid i 0), g.fp (pid i 0)⟩ :: L, ?_, (Pc.var r hnd m1 m2 m3 (.inr ⟨by rw [hH], rfl⟩) l2).mono fun g' h' _ hg _ => ?_, fun _ _ _ h => h⟩
    · show (pid i 0, _) :: (unCs (uid i 1) cs x).2 = _
      rw [l1]
      rfl
    · exact ⟨⟨by rw [hg.2]; exact Nat.le_refl _, by rw [hptr]; rfl⟩, fun _ cs' hc' => ⟨b', by rw [hg.1]; exact hloc, hptr⟩⟩
end
end VM
