/- Many roots at once; contracts. -/
import Derived.Test.YtljofbhokcdklaaVMp
set_option linter.unusedVariables false
set_option linter.unusedSimpArgs false
namespace VM
open Go

structure Claim where
  id : Nat
  re : RE
  loc : Value
  fp : List Nat
def Claim.pr (q : Claim) : Nat × RE := (q.id, q.re)

def Agr (g : Gh) (h : Nat → RE) (L : List Claim) : Prop := ∀ q ∈ L, h q.id = q.re ∧ g.loc q.id = q.loc ∧ g.fp q.id = q.fp
theorem Agr.left {g h L M} (a : Agr g h (L ++ M)) : Agr g h L := fun q hq => a q (by simp [hq])
theorem Agr.right {g h L M} (a : Agr g h (L ++ M)) : Agr g h M := fun q hq => a q (by simp [hq])

def claimAt : List Claim → Nat → Option Claim
  | [], _ => none
  | q :: L, i => if i = q.id then some q else claimAt L i
theorem claimAt_some : ∀ {L : List Claim} {i : Nat} {q : Claim}, claimAt L i = some q → q ∈ L ∧ q.id = i
  | [], _, _, h => by cases h
  | p :: L, i, q, h => by
    simp only [claimAt] at h
    split at h
    · rename_i e
      simp only [Option.some.injEq] at h
      subst h
      exact ⟨by simp, e.symm⟩
    · obtain ⟨h1, h2⟩ := claimAt_some h
      exact ⟨by simp [h1], h2⟩
theorem claimAt_none : ∀ {L : List Claim} {i : Nat}, claimAt L i = none → ∀ q ∈ L, q.id ≠ i
  | [], _, _, q, hq => by simp at hq
  | p :: L, i, h, q, hq => by
    simp only [claimAt] at h
    split at h
    · cases h
    · rename_i e
      rcases List.mem_cons.1 hq with rfl | hq
      · exact fun h => e h.symm
      · exact claimAt_none h q hq
theorem claimAt_mem : ∀ {L : List Claim}, (L.map (·.id)).Nodup → ∀ q ∈ L, claimAt L q.id = some q
  | [], _, q, hq => by simp at hq
  | p :: L, hn, q, hq => by
    rw [List.map_cons, List.nodup_cons] at hn
    simp only [claimAt]
    rcases List.mem_cons.1 hq with rfl | hq
    · rw [if_pos rfl]
    · rw [if_neg, claimAt_mem hn.2 q hq]
      intro e
      exact hn.1 (List.mem_map.2 ⟨q, hq, e⟩)
theorem setH_claims (h : Nat → RE) : ∀ (L : List Claim) (i : Nat), setH h (L.map Claim.pr) i = match claimAt L i with | some q => q.re | none => h i
  | [], i => rfl
  | q :: L, i => by
    rw [List.map_cons, show Claim.pr q = (q.id, q.re) from rfl, setH_cons]
    simp only [claimAt]
    split
    · rfl
    · exact setH_claims h L i

section
variable {P : Program} {F : Fx} {σ : St} {a : Act} {w : World} {g : Gh} {R : Type} {tt : List (Nat × TD)} {env : List Ct} {k : Nat} {o : Oper} {H : Nat → RE} {K : Upd → Option R} {y : R}

def IsNew (F : Fx) (σ : St) (q : Claim) : Prop := (σ.h q.id).inc < q.re.inc ∧ ∀ p ∈ F.P0, p.1 ≠ q.id
def IsUpd (σ : St) (g : Gh) (q : Claim) : Prop :=
  q.re.inc = (σ.h q.id).inc ∧ (σ.h q.id).ver ≤ q.re.ver ∧ q.loc = g.loc q.id ∧ SameC (σ.h q.id).c q.re.c ∧ (q.re.ver = (σ.h q.id).ver → ∀ e xs, (σ.h q.id).c ≠ .row true e xs)

theorem mem_flatMap_nodup {L : List Claim} (h : (L.flatMap (·.fp)).Nodup) (hid : (L.map (·.id)).Nodup) {p q : Claim} (hp : p ∈ L) (hq : q ∈ L) {b : Nat} (h1 : b ∈ p.fp) (h2 : b ∈ q.fp) : p.id = q.id := by
  induction L with
  | nil => simp at hp
  | cons s L ih =>
    rw [List.flatMap_cons, List.nodup_append] at h
    rw [List.map_cons, List.nodup_cons] at hid
    rcases List.mem_cons.1 hp with hp1 | hp1 <;> rcases List.mem_cons.1 hq with hq1 | hq1
    · rw [hp1, hq1]
    · rw [hp1] at h1
      exact absurd rfl (h.2.2 b h1 b (List.mem_flatMap.2 ⟨q, hq1, h2⟩))
    · rw [hq1] at h2
      exact absurd rfl (h.2.2 b h2 b (List.mem_flatMap.2 ⟨p, hp1, h1⟩))
    · exact ih h.2.1 hid.2 hp1 hq1

theorem Rl.many (r : Rl F σ a w g) {T : List Nat} (hT : ∀ id ∈ T, H id = σ.h id) {L : List Claim} (hid : (L.map (·.id)).Nodup) (hq : ∀ q ∈ L, IsNew F σ q ∨ (IsUpd σ g q ∧ q.id ∉ T)) {w' : World} {Z' : Nat → Prop}
    (hZZ : ∀ b, g.Z b → Z' b) (hZT : ∀ b, Z' b → g.Z b ∨ (∃ id, (id ∈ T ∨ ∃ q ∈ L, q.id = id) ∧ b ∈ g.fp id) ∨ w.heap.size ≤ b) (hZl : ∀ b, Z' b → b < w'.heap.size)
    (os : w'.os = w.os) (tp : w'.tape = w.tape) (ou : w'.output = w.output) (sz : w.heap.size ≤ w'.heap.size)
    (fr : ∀ b, b < w.heap.size → (∀ id, (id ∈ T ∨ ∃ q ∈ L, q.id = id) → b ∉ g.fp id) → w'.heap[b]? = w.heap[b]?)
    (hnd : (L.flatMap (·.fp)).Nodup) (hnew : ∀ q ∈ L, ∀ b ∈ q.fp, ¬ Z' b ∧ (w.heap.size ≤ b ∨ ∃ id, (id ∈ T ∨ ∃ q ∈ L, q.id = id) ∧ b ∈ g.fp id))
    (hrr : ∀ h' : Nat → RE, ∀ g' : Gh, g'.Z = Z' → Agr g' h' L → ∀ q ∈ L, RR g' w' h' q.re q.loc q.fp) :
    ∃ g', Rl F ⟨σ.s, setH σ.h (L.map Claim.pr ++ dead H T)⟩ a w' g' ∧ g'.Z = Z' ∧ Agr g' (setH σ.h (L.map Claim.pr ++ dead H T)) L ∧ Ext g w σ.h g' w' (setH σ.h (L.map Claim.pr ++ dead H T)) := by
  let g' : Gh := ⟨Z', fun id => match claimAt L id with | some q => q.loc | none => g.loc id, fun id => match claimAt L id with | some q => q.fp | none => if id ∈ T then [] else g.fp id⟩
  have hh : ∀ id, setH σ.h (L.map Claim.pr ++ dead H T) id = match claimAt L id with | some q => q.re | none => if id ∈ T then ⟨(σ.h id).inc + 1, 0, .none⟩ else σ.h id := by
    intro id
    rw [setH_append, setH_claims]
    split
    · rfl
    · rw [setH_dead]
      by_cases e2 : id ∈ T
      · rw [if_pos e2, if_pos e2, hT id e2]
      · rw [if_neg e2, if_neg e2]
  have hkeep : ∀ id, claimAt L id = none → id ∉ T → ∀ b ∈ g.fp id, w'.heap[b]? = w.heap[b]? := by
    intro id h1 h2 b hb
    refine fr b ((r.rt id).lt b hb) (fun id' h3 h4 => ?_)
    have := r.dj id id' b hb h4
    subst this
    rcases h3 with h3 | ⟨q, h3, h5⟩
    · exact h2 h3
    · exact claimAt_none h1 q h3 h5
  have hZ : ∀ b, g.Z b → w'.heap[b]? = w.heap[b]? := fun b hb => fr b (r.zl b hb) (fun id _ h => (r.sp id b h).1 hb)
  have x : Ext g w σ.h g' w' (setH σ.h (L.map Claim.pr ++ dead H T)) := by
    refine ⟨hZ, hZZ, fun id => ?_⟩
    rw [hh id]
    cases hc : claimAt L id with
    | some q =>
      obtain ⟨h1, h2⟩ := claimAt_some hc
      subst h2
      rcases hq q h1 with ⟨h3, _⟩ | ⟨⟨h3, h4, h5, h6, h7⟩, _⟩
      · left; exact h3
      · right
        refine ⟨h3, h4, ?_, h6, fun hv ee xs hcc => absurd hcc (h7 hv ee xs)⟩
        show (match claimAt L q.id with | some q => q.loc | none => g.loc q.id) = _
        rw [hc]
        exact h5
    | none =>
      by_cases e2 : id ∈ T
      · left; simp [e2]
      · simp only [if_neg e2]
        right
        refine ⟨trivial, Nat.le_refl _, ?_, SameC.refl _, fun _ ee xs hcc p u hat => ?_⟩
        · show (match claimAt L id with | some q => q.loc | none => g.loc id) = _
          rw [hc]
        · have hrow := r.rt id
          unfold RR at hrow
          rw [hcc] at hrow
          exact RowAt.frame hrow (hkeep id hc e2) hat
  have hagr : Agr g' (setH σ.h (L.map Claim.pr ++ dead H T)) L := by
    intro q hq'
    have := claimAt_mem hid q hq'
    refine ⟨by rw [hh, this], ?_, ?_⟩
    · show (match claimAt L q.id with | some q => q.loc | none => g.loc q.id) = _
      rw [this]
    · show (match claimAt L q.id with | some q => q.fp | none => if q.id ∈ T then [] else g.fp q.id) = _
      rw [this]
  have hfp : ∀ id, g'.fp id = match claimAt L id with | some q => q.fp | none => if id ∈ T then [] else g.fp id := fun _ => rfl
  refine ⟨g', ?_, rfl, hagr, x⟩
  refine r.step x ?_ ?_ ?_ ?_ hZl ?_ os tp ou sz ?_ ?_
  · intro id
    cases hc : claimAt L id with
    | some q =>
      obtain ⟨h1, rfl⟩ := claimAt_some hc
      obtain ⟨a1, a2, a3⟩ := hagr q h1
      rw [a1, a2, a3]
      exact hrr _ g' rfl hagr q h1
    | none =>
      rw [hh id, hfp id]
      simp only [hc]
      by_cases e2 : id ∈ T
      · rw [if_pos e2, if_pos e2]
        simp [RR]
      · rw [if_neg e2, if_neg e2]
        have : g'.loc id = g.loc id := by
          show (match claimAt L id with | some q => q.loc | none => g.loc id) = _
          rw [hc]
        rw [this]
        exact (r.rt id).ext x (hkeep id hc e2)
  · intro id
    rw [hfp id]
    split
    · rename_i q hc
      obtain ⟨h1, _⟩ := claimAt_some hc
      refine hnd.sublist ?_
      exact List.sublist_flatten_of_mem (List.mem_map.2 ⟨q, h1, rfl⟩)
    · split
      · exact List.nodup_nil
      · exact r.nd id
  · intro id id' b h1 h2
    have key : ∀ id, b ∈ g'.fp id → (∃ q ∈ L, q.id = id ∧ b ∈ q.fp) ∨ (claimAt L id = none ∧ id ∉ T ∧ b ∈ g.fp id) := by
      intro id h
      rw [hfp id] at h
      split at h
      · rename_i q hc
        obtain ⟨h1, h2⟩ := claimAt_some hc
        exact .inl ⟨q, h1, h2, h⟩
      · split at h
        · simp at h
        · exact .inr ⟨‹_›, ‹_›, h⟩
    have excl : ∀ id q, claimAt L id = none → id ∉ T → b ∈ g.fp id → q ∈ L → b ∈ q.fp → False := by
      intro id q h1 h2 h3 h4 h5
      rcases (hnew q h4 b h5).2 with h5 | ⟨id2, h5, h6⟩
      · have := (r.rt id).lt b h3; omega
      · have := r.dj id id2 b h3 h6
        subst this
        rcases h5 with h5 | ⟨q', h5, h7⟩
        · exact h2 h5
        · exact claimAt_none h1 q' h5 h7
    rcases key id h1 with ⟨p, a1, a2, a3⟩ | ⟨a1, a2, a3⟩ <;> rcases key id' h2 with ⟨q, b1, b2, b3⟩ | ⟨b1, b2, b3⟩
    · rw [← a2, ← b2]; exact mem_flatMap_nodup hnd hid a1 b1 a3 b3
    · exact (excl id' p b1 b2 b3 a1 a3).elim
    · exact (excl id q a1 a2 a3 b1 b3).elim
    · exact r.dj id id' b a3 b3
  · intro id b h
    rw [hfp id] at h
    split at h
    · rename_i q hc
      obtain ⟨h1, h2⟩ := claimAt_some hc
      refine ⟨(hnew q h1 b h).1, ?_⟩
      rcases (hnew q h1 b h).2 with h5 | ⟨id2, _, h6⟩
      · exact r.uf b (Nat.le_trans r.sz h5)
      · exact (r.sp id2 b h6).2
    · split at h
      · simp at h
      · rename_i hc h2
        refine ⟨fun hz => ?_, (r.sp id b h).2⟩
        rcases hZT b hz with h3 | ⟨id2, h3, h4⟩ | h3
        · exact (r.sp id b h).1 h3
        · have := r.dj id id2 b h h4
          subst this
          rcases h3 with h3 | ⟨q', h3, h7⟩
          · exact h2 h3
          · exact claimAt_none hc q' h3 h7
        · have := (r.rt id).lt b h; omega
  · intro b hb
    rcases hZT b hb with h3 | ⟨id2, _, h4⟩ | h3
    · exact .inl h3
    · exact .inr (r.sp id2 b h4).2
    · exact .inr (r.uf b (Nat.le_trans r.sz h3))
  · intro b hb hu
    exact fr b hb (fun id _ h => hu (r.sp id b h).2)
  · intro p hp hi
    have hp1 := r.p1 p hp
    rw [hh p.1] at hi
    show _ ∧ (match claimAt L p.1 with | some q => q.loc | none => g.loc p.1) = _
    cases hc : claimAt L p.1 with
    | some q =>
      obtain ⟨h1, h2⟩ := claimAt_some hc
      rw [hc] at hi
      simp only at hi
      rcases hq q h1 with ⟨_, h3⟩ | ⟨⟨h3, h4, h5, h6, h7⟩, _⟩
      · exact absurd h2.symm (h3 p hp)
      · rw [h2] at h3 h5
        exact ⟨by rw [← h3]; exact hi, h5⟩
    | none =>
      rw [hc] at hi
      simp only at hi
      refine ⟨?_, rfl⟩
      split at hi
      · simp at hi; omega
      · exact hi
end

/-! ### contracts -/
/-- Owned rows, their elements owned or shared. -/
def HasO (Z : Nat → Prop) (w : World) (d : Bool) : (c : CK) → c.den → List Value → List Nat → Prop
  | .int k, n, us, fp => us = [.int k n] ∧ fp = []
  | .bool, b, us, fp => us = [.bool b] ∧ fp = []
  | .str, s, us, fp => us = [strV s] ∧ fp = []
  | .unit, _, us, fp => us = [] ∧ fp = []
  | .pair a b, x, us, fp => ∃ u1 u2 f1 f2, us = u1 ++ u2 ∧ fp = f1 ++ f2 ∧ HasO Z w d a x.1 u1 f1 ∧ HasO Z w d b x.2 u2 f2
  | .sl e, xs, us, fp => ∃ v, us = [v] ∧ Row Z w d e xs v fp

theorem Has.toO {Z : Nat → Prop} {w : World} : ∀ {c : CK} {x : c.den} {us : List Value} {fp : List Nat}, Has Z w true c x us fp → HasO Z w true c x us fp
  | .int _, _, _, _, h => h
  | .bool, _, _, _, h => h
  | .str, _, _, _, h => h
  | .unit, _, _, _, h => h
  | .pair a b, x, us, fp, ⟨u1, u2, f1, f2, h1, h2, h3, h4⟩ => ⟨u1, u2, f1, f2, h1, h2, h3.toO, h4.toO⟩
  | .sl e, xs, us, fp, ⟨v, hu, h⟩ => by
    rcases h with ⟨_, h⟩ | ⟨h, _⟩
    · exact ⟨v, hu, h⟩
    · cases h

theorem HasO.len {Z : Nat → Prop} {w : World} {d : Bool} : ∀ {c : CK} {x : c.den} {us : List Value} {fp : List Nat}, HasO Z w d c x us fp → us.length = c.size
  | .int _, _, _, _, h => by rw [h.1]; rfl
  | .bool, _, _, _, h => by rw [h.1]; rfl
  | .str, _, _, _, h => by rw [h.1]; rfl
  | .unit, _, _, _, h => by rw [h.1]; rfl
  | .pair a b, x, us, fp, ⟨u1, u2, f1, f2, h1, h2, h3, h4⟩ => by rw [h1, List.length_append, HasO.len h3, HasO.len h4]; rfl
  | .sl e, xs, us, fp, ⟨v, hu, h⟩ => by rw [hu]; rfl

def InsR (Z : Nat → Prop) (w : World) : (ps : List (PM × CK)) → (inK ps).den → List Value → List Nat → Prop
  | [], _, [], fp => fp = []
  | (.fn f, _) :: ps, x, v :: vs, fp => v = .func (.func f) #[] #[] ∧ InsR Z w ps x vs fp
  | (.imm, c) :: ps, x, v :: vs, fp => (∃ us, v = valV c us ∧ Has Z w false c x.1 us []) ∧ InsR Z w ps x.2 vs fp
  | (.mut, c) :: ps, x, v :: vs, fp => ∃ us f1 f2, fp = f1 ++ f2 ∧ v = valV c us ∧ Has Z w true c x.1 us f1 ∧ InsR Z w ps x.2 vs f2
  | (.own, c) :: ps, x, v :: vs, fp => ∃ us f1 f2, fp = f1 ++ f2 ∧ v = valV c us ∧ Has Z w true c x.1 us f1 ∧ InsR Z w ps x.2 vs f2
  | (.ptr, c) :: ps, x, v :: vs, fp => ∃ b us ty f1 f2, fp = b :: (f1 ++ f2) ∧ v = .pointer (some ⟨b, 0, none⟩) ∧ w.heap[b]? = some (.cells us.toArray ty (0, 0)) ∧ Has Z w true c x.1 us f1 ∧ InsR Z w ps x.2 vs f2
  | (.pts, c) :: ps, x, v :: vs, fp => ∃ b us ty f2, fp = b :: f2 ∧ v = .pointer (some ⟨b, 0, none⟩) ∧ w.heap[b]? = some (.cells us.toArray ty (0, 0)) ∧ Has Z w false c x.1 us [] ∧ InsR Z w ps x.2 vs f2
  | _, _, _, _ => False

def MutsR (Z : Nat → Prop) (w : World) : (ps : List (PM × CK)) → (mutK ps).den → List Value → List Nat → Prop
  | [], _, [], fp => fp = []
  | (.fn _, _) :: ps, x, _ :: vs, fp => MutsR Z w ps x vs fp
  | (.imm, _) :: ps, x, _ :: vs, fp => MutsR Z w ps x vs fp
  | (.own, _) :: ps, x, _ :: vs, fp => MutsR Z w ps x vs fp
  | (.mut, c) :: ps, x, v :: vs, fp => ∃ us f1 f2, fp = f1 ++ f2 ∧ v = valV c us ∧ us.length = c.size ∧ Has Z w true c x.1 us f1 ∧ MutsR Z w ps x.2 vs f2
  | (.ptr, c) :: ps, x, v :: vs, fp => ∃ b us ty f1 f2, fp = b :: (f1 ++ f2) ∧ v = .pointer (some ⟨b, 0, none⟩) ∧ w.heap[b]? = some (.cells us.toArray ty (0, 0)) ∧ Has Z w true c x.1 us f1 ∧ MutsR Z w ps x.2 vs f2
  | (.pts, c) :: ps, x, v :: vs, fp => ∃ b us ty f2, fp = b :: f2 ∧ v = .pointer (some ⟨b, 0, none⟩) ∧ w.heap[b]? = some (.cells us.toArray ty (0, 0)) ∧ Has Z w false c x.1 us [] ∧ MutsR Z w ps x.2 vs f2
  | _, _, _, _ => False

def RessR (Z : Nat → Prop) (w : World) : (rs : List (RM × CK)) → (resK rs).den → List Value → List Nat → Prop
  | [], _, [], fp => fp = []
  | (.imm, c) :: rs, x, v :: vs, fp => (∃ us, v = valV c us ∧ Has Z w false c x.1 us []) ∧ RessR Z w rs x.2 vs fp
  | (.own d, c) :: rs, x, v :: vs, fp => ∃ us f1 f2, fp = f1 ++ f2 ∧ v = valV c us ∧ HasO Z w d c x.1 us f1 ∧ RessR Z w rs x.2 vs f2
  | (.pts, c) :: rs, x, v :: vs, fp => ∃ b us ty f2, fp = b :: f2 ∧ v = .pointer (some ⟨b, 0, none⟩) ∧ w.heap[b]? = some (.cells us.toArray ty (0, 0)) ∧ Has Z w false c x.1 us [] ∧ RessR Z w rs x.2 vs f2
  | _, _, _, _ => False

def retVal : List Value → Value
  | [v] => v
  | vs => .tuple vs.toArray

structure CallPost (Z : Nat → Prop) (w : World) (fp : List Nat) (g : Sg) (us : List Value) (y : g.Out) (w' : World) (vs : List Value) (Z' : Nat → Prop) (fm fr : List Nat) : Prop where
  muts : MutsR Z' w' g.ps y.2 us fm
  ress : RessR Z' w' g.rs y.1 vs fr
  nd : (fm ++ fr).Nodup
  new : ∀ b ∈ fm ++ fr, ¬ Z' b ∧ (b ∈ fp ∨ w.heap.size ≤ b)
  zz : ∀ b, Z b → Z' b
  zn : ∀ b, Z' b → Z b ∨ b ∈ fp ∨ w.heap.size ≤ b
  zl : ∀ b, Z' b → b < w'.heap.size
  os : w'.os = w.os
  tp : w'.tape = w.tape
  ou : w'.output = w.output
  sz : w.heap.size ≤ w'.heap.size
  fr : ∀ b, b < w.heap.size → b ∉ fp → w'.heap[b]? = w.heap[b]?

structure SoundC (P : Program) (c : Ct) : Prop where
  call : ∀ args w, (callFunc c.f args).run P w = .ok (.enter c.f args) w
  run : ∀ k x y, c.run k x = some y → ∀ Z w us fp, InsR Z w c.g.ps x us fp → fp.Nodup → (∀ b ∈ fp, ¬ Z b ∧ b < w.heap.size) → (∀ b, Z b → b < w.heap.size) →
    Calls P c.f us.toArray w (fun e w' => ∃ vs, e = .returned (retVal vs) ∧ ∃ Z' fm fr, CallPost Z w fp c.g us y w' vs Z' fm fr)

def EnvOk (P : Program) (env : List Ct) : Prop := ∀ c ∈ env, SoundC P c
theorem findC_some : ∀ {env : List Ct} {f : FuncId} {c : Ct}, findC env f = some c → c ∈ env ∧ c.f = f
  | [], _, _, h => by cases h
  | d :: env, f, c, h => by
    simp only [findC] at h
    cases hb : Nat.beq d.f f with
    | true =>
      rw [hb] at h
      simp only [cond_true, Option.some.injEq] at h
      subst h
      exact ⟨by simp, Nat.eq_of_beq_eq_true hb⟩
    | false =>
      rw [hb] at h
      obtain ⟨h1, h2⟩ := findC_some h
      exact ⟨by simp [h1], h2⟩
end VM
