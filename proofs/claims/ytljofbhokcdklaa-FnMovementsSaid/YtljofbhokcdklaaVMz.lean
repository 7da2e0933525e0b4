/- Joins: from state to state. -/
import Derived.Test.YtljofbhokcdklaaVMy
set_option linter.unusedVariables false
set_option linter.unusedSimpArgs false
namespace VM
open Go

section
variable {P : Program} {F : Fx} {σ : St} {a : Act} {w : World} {g : Gh} {R : Type} {o : Oper} {B : St} {y : R}

theorem unL_h : ∀ (sp : List (Nat × LS)) (x : (spK sp).den), (unL B sp x).h = setH B.h (unH sp x)
  | [], x => rfl
  | [(i, s)], x => rfl
  | (i, s) :: b :: l, x => by
    show setH (unL B (b :: l) x.2).h (unS i s x.1).2 = setH B.h ((unS i s x.1).2 ++ unH (b :: l) x.2)
    rw [unL_h (b :: l) x.2]
    funext j
    rw [setH_append]

theorem setS_at (σ : St) (i : Nat) (v : SV) (j : Nat) : (σ.setS i v).s j = if j = i then v else σ.s j := by
  show (bif Nat.beq j i then v else σ.s j) = _
  by_cases h : j = i
  · subst h; simp
  · rw [if_neg h]
    cases hb : Nat.beq j i with
    | false => rfl
    | true => exact absurd (Nat.eq_of_beq_eq_true hb) h

theorem packL_sound (r : Rl F σ a w g) : ∀ {sp : List (Nat × LS)} {m : List (Nat × Nat)} {x : (spK sp).den} {ids : List Nat}, packL σ m sp = some (x, ids) → ids.Nodup →
    ∃ L : List Claim, unH sp x = L.map Claim.pr ∧ Pc F σ w g ids L (fun g' h' => MapOk σ g m g' h' → ∀ j, (unL B sp x).s j = B.s j ∨ SVr g' w h' ((unL B sp x).s j) (a.tmps.getD j undef))
  | [], m, x, ids, h, hnd => by
    obtain ⟨_, rfl⟩ := Prod.mk.inj (Option.some.inj h)
    exact ⟨[], rfl, Pc.nil fun g' h' _ _ j => .inl rfl⟩
  | [(i, s)], m, x, ids, h, hnd => by
    have h' : (bif Nat.blt i 40000 && Nat.blt s.len 1000 then match packS σ.h m i (σ.s i) s with | some (x, ids, _) => some (x, ids) | none => none else none) = some ((x : s.ck.den), ids) := h
    clear h
    obtain ⟨hck, h⟩ := cond_some h'
    rw [Bool.and_eq_true, Nat.blt_eq, Nat.blt_eq] at hck
    split at h
    case h_2 => cases h
    rename_i x1 i1 m1 hs
    obtain ⟨rfl, rfl⟩ := Prod.mk.inj (Option.some.inj h)
    obtain ⟨L, l1, l2, l3⟩ := packS_sound r hck.1 hck.2 hs (r.sl i) hnd
    refine ⟨L, l1, l2.mono fun g' h' _ hg hm j => ?_⟩
    show (St.setS ⟨B.s, setH B.h (unS i s x1).2⟩ i (unS i s x1).1).s j = B.s j ∨ SVr g' w h' ((St.setS ⟨B.s, setH B.h (unS i s x1).2⟩ i (unS i s x1).1).s j) _
    rw [setS_at]
    by_cases e : j = i
    · subst e
      rw [if_pos rfl]
      exact .inr (hg hm)
    · rw [if_neg e]
      exact .inl rfl
  | (i, s) :: b :: l, m, x, ids, h, hnd => by
    have h' : (bif Nat.blt i 40000 && Nat.blt s.len 1000 then match packS σ.h m i (σ.s i) s with
      | some (x, i1, m) => match packL σ m (b :: l) with
        | some (y, i2) => some ((x, y), i1 ++ i2)
        | none => none
      | none => none else none) = some ((x : s.ck.den × (spK (b :: l)).den), ids) := h
    clear h
    obtain ⟨hck, h⟩ := cond_some h'
    rw [Bool.and_eq_true, Nat.blt_eq, Nat.blt_eq] at hck
    split at h
    case h_2 => cases h
    rename_i x1 i1 m1 hs
    split at h
    case h_2 => cases h
    rename_i x2 i2 hl
    obtain ⟨rfl, rfl⟩ := Prod.mk.inj (Option.some.inj h)
    obtain ⟨L1, l1, l2, l3⟩ := packS_sound r hck.1 hck.2 hs (r.sl i) (List.nodup_append.1 hnd).1
    obtain ⟨L2, m1', m2⟩ := packL_sound r hl (List.nodup_append.1 hnd).2.1
    refine ⟨L1 ++ L2, ?_, (l2.append r m2 hnd).mono fun g' h' hag hg hm j => ?_⟩
    · show (unS i s x1).2 ++ unH (b :: l) x2 = _
      rw [l1, m1', List.map_append]
    · show (St.setS ⟨(unL B (b :: l) x2).s, setH (unL B (b :: l) x2).h (unS i s x1).2⟩ i (unS i s x1).1).s j = B.s j ∨ SVr g' w h' ((St.setS ⟨(unL B (b :: l) x2).s, setH (unL B (b :: l) x2).h (unS i s x1).2⟩ i (unS i s x1).1).s j) _
      rw [setS_at]
      by_cases e : j = i
      · subst e
        rw [if_pos rfl]
        exact .inr (hg.1 hm)
      · rw [if_neg e]
        exact hg.2 (l3 g' h' hag.left hm) j

theorem BVr.sv {g' : Gh} {h' : Nat → RE} (hp1 : ∀ p ∈ F.P0, 1 ≤ (h' p.1).inc) (hpl : ∀ p ∈ F.P0, (h' p.1).inc = 1 → g'.loc p.1 = p.2) {v : CV} {u : Value} (h : BVr F g' w v u) : CVr g' w h' v u := by
  unfold BVr at h
  split at h
  · trivial
  · exact h
  · exact h
  · exact h
  · exact h
  · exact h
  · obtain ⟨h1, b, h2⟩ := h
    refine ⟨⟨hp1 _ h1, by rw [h2]; rfl⟩, fun hi cs hc => ⟨b, ?_, h2⟩⟩
    rw [hpl _ h1 hi.symm]
    exact h2
  · obtain ⟨h1, h2⟩ := h
    refine ⟨⟨hp1 _ h1, fun _ => Nat.zero_le _, h2⟩, fun d e xs hc hv => ?_⟩
    exact (hpl _ h1 hv.1.symm).symm
  · exact h.elim

theorem BSr.sv {g' : Gh} {h' : Nat → RE} (hp1 : ∀ p ∈ F.P0, 1 ≤ (h' p.1).inc) (hpl : ∀ p ∈ F.P0, (h' p.1).inc = 1 → g'.loc p.1 = p.2) {v : SV} {u : Value} (h : BSr F g' w v u) : SVr g' w h' v u := by
  cases v with
  | one v => exact BVr.sv hp1 hpl h
  | agg vs => obtain ⟨us, h1, h2⟩ := h; exact ⟨us, h1, h2.mono fun _ _ => BVr.sv hp1 hpl⟩
  | tup xs => exact h.elim

theorem pack_sound (hF : FOk F) {sp : List (Nat × LS)} {K : (spK sp).den → Option R} (h : pack sp σ K = some y) (r : Rl F σ a w g) : ∃ x g', K x = some y ∧ Rl F (unL F.B sp x) a w g' := by
  unfold pack at h
  split at h
  case h_2 => cases h
  rename_i x ids hp
  obtain ⟨hck, hK⟩ := cond_some h
  rw [Bool.and_eq_true] at hck
  have hnd := nodB_iff.1 hck.1
  obtain ⟨L, l1, l2⟩ := packL_sound (B := F.B) r hp hnd
  have hids : (L.map (·.id)).Nodup := by
    have := nodB_iff.1 hck.2
    rw [l1, List.map_map] at this
    exact this
  refine ⟨x, ?_⟩
  let Z' : Nat → Prop := fun b => g.Z b ∨ ((∃ id ∈ ids, b ∈ g.fp id) ∧ b ∉ L.flatMap (·.fp))
  let g' : Gh := ⟨Z', fun id => match claimAt L id with | some q => q.loc | none => g.loc id, fun id => match claimAt L id with | some q => q.fp | none => []⟩
  have hh : ∀ id, (unL F.B sp x).h id = match claimAt L id with | some q => q.re | none => ⟨2, 0, .none⟩ := by
    intro id
    rw [unL_h, l1, setH_claims]
    cases claimAt L id with
    | some q => rfl
    | none =>
      show F.B.h id = _
      rw [hF.b]
  have hagr : Agr g' (unL F.B sp x).h L := by
    intro q hq'
    have := claimAt_mem hids q hq'
    refine ⟨by rw [hh, this], ?_, ?_⟩
    · show (match claimAt L q.id with | some q => q.loc | none => g.loc q.id) = _
      rw [this]
    · show (match claimAt L q.id with | some q => q.fp | none => []) = _
      rw [this]
  obtain ⟨k1, k2⟩ := l2.good g' (unL F.B sp x).h (fun _ h => .inl h) (fun id h1 b h2 h3 => .inr ⟨⟨id, h1, h2⟩, h3⟩) hagr
  have hp1 : ∀ p ∈ F.P0, 1 ≤ ((unL F.B sp x).h p.1).inc := by
    intro p hp
    rw [hh]
    split
    · rename_i q hc
      rw [l2.inc q (claimAt_some hc).1]
      exact Nat.le_refl _
    · exact Nat.le_succ _
  have hpl : ∀ p ∈ F.P0, ((unL F.B sp x).h p.1).inc = 1 → g'.loc p.1 = p.2 := by
    intro p hp hi
    rw [hh] at hi
    cases hc : claimAt L p.1 with
    | none => rw [hc] at hi; simp at hi
    | some q =>
      obtain ⟨h1, h2⟩ := claimAt_some hc
      show (match claimAt L p.1 with | some q => q.loc | none => g.loc p.1) = _
      rw [hc]
      rcases l2.nm q h1 with h3 | ⟨h3, h4⟩
      · have := hF.p p hp
        rw [h2] at h3
        unfold pLim at h3
        omega
      · rw [h2] at h3 h4
        show q.loc = p.2
        rw [h4]
        exact r.pl p hp h3
  have hbs : ∀ i, BSr F g' w (F.B.s i) (a.tmps.getD i undef) := fun i => (r.bs i).frame (fun _ _ => rfl) (fun _ h => Or.inl h)
  have hsub : ∀ q ∈ L, ∀ b ∈ q.fp, ∃ id ∈ ids, b ∈ g.fp id := l2.sub
  have hgfp : ∀ id b, b ∈ g'.fp id → ∃ q ∈ L, q.id = id ∧ b ∈ q.fp := by
    intro id b hb
    have hb : b ∈ (match claimAt L id with | some q => q.fp | none => []) := hb
    split at hb
    · rename_i q hc
      exact ⟨q, (claimAt_some hc).1, (claimAt_some hc).2, hb⟩
    · simp at hb
  refine ⟨g', hK, ?_⟩
  constructor
  case sl =>
    intro j
    rcases k1 (by intro p hp; simp at hp) j with h | h
    · rw [h]; exact (hbs j).sv hp1 hpl
    · exact h
  case bs => exact hbs
  case rt =>
    intro id
    cases hc : claimAt L id with
    | some q =>
      obtain ⟨h1, rfl⟩ := claimAt_some hc
      obtain ⟨a1, a2, a3⟩ := hagr q h1
      rw [a1, a2, a3]
      exact k2 q h1
    | none =>
      rw [hh id, hc]
      show (match claimAt L id with | some q => q.fp | none => []) = []
      rw [hc]
  case nd =>
    intro id
    show (match claimAt L id with | some q => q.fp | none => []).Nodup
    split
    · rename_i q hc
      exact l2.nd.sublist (List.sublist_flatten_of_mem (List.mem_map.2 ⟨q, (claimAt_some hc).1, rfl⟩))
    · exact List.nodup_nil
  case dj =>
    intro id id' b h1 h2
    obtain ⟨p, p1, p2, p3⟩ := hgfp id b h1
    obtain ⟨q, q1, q2, q3⟩ := hgfp id' b h2
    rw [← p2, ← q2]
    exact mem_flatMap_nodup l2.nd hids p1 q1 p3 q3
  case sp =>
    intro id b h1
    obtain ⟨p, p1, p2, p3⟩ := hgfp id b h1
    obtain ⟨id2, h3, h4⟩ := hsub p p1 b p3
    refine ⟨?_, (r.sp id2 b h4).2⟩
    rintro (hz | ⟨_, hz⟩)
    · exact (r.sp id2 b h4).1 hz
    · exact hz (List.mem_flatMap.2 ⟨p, p1, p3⟩)
  case zl =>
    rintro b (hz | ⟨⟨id, _, h⟩, _⟩)
    · exact r.zl b hz
    · exact (r.rt id).lt b h
  case z0 => exact fun b hb => .inl (r.z0 b hb)
  case zu =>
    rintro b (hz | ⟨⟨id, _, h⟩, _⟩)
    · exact r.zu b hz
    · exact .inr (r.sp id b h).2
  case uf => exact r.uf
  case os => exact r.os
  case tp => exact r.tp
  case ou => exact r.ou
  case sz => exact r.sz
  case fr => exact r.fr
  case pl => exact hpl
  case p1 => exact hp1
  case df => exact r.df
  case ts => exact r.ts
end
end VM
