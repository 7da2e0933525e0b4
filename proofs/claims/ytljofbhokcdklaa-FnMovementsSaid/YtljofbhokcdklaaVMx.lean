/- Joins: the state packed into pure values, and laid out again. -/
import Derived.Test.YtljofbhokcdklaaVMw
set_option linter.unusedVariables false
set_option linter.unusedSimpArgs false
namespace VM
open Go

section
variable {P : Program} {F : Fx} {σ : St} {a : Act} {w : World} {g : Gh} {R : Type} {o : Oper}

@[irreducible] def pLim : Nat := 3000000

/-- A piece of a state: what it takes, what it lays out, and what then holds. -/
structure Pc (F : Fx) (σ : St) (w : World) (g : Gh) (ids : List Nat) (L : List Claim) (Good : Gh → (Nat → RE) → Prop) : Prop where
  sub : ∀ q ∈ L, ∀ b ∈ q.fp, ∃ id ∈ ids, b ∈ g.fp id
  nd : (L.flatMap (·.fp)).Nodup
  inc : ∀ q ∈ L, q.re.inc = 1
  nm : ∀ q ∈ L, q.id < pLim ∨ ((σ.h q.id).inc = 1 ∧ q.loc = g.loc q.id)
  good : ∀ g' h', (∀ b, g.Z b → g'.Z b) → (∀ id ∈ ids, ∀ b ∈ g.fp id, b ∉ L.flatMap (·.fp) → g'.Z b) → Agr g' h' L → Good g' h' ∧ ∀ q ∈ L, RR g' w h' q.re q.loc q.fp

theorem Pc.mono {ids : List Nat} {L : List Claim} {G G' : Gh → (Nat → RE) → Prop} (p : Pc F σ w g ids L G) (h : ∀ g' h', Agr g' h' L → G g' h' → G' g' h') : Pc F σ w g ids L G' :=
  ⟨p.sub, p.nd, p.inc, p.nm, fun g' h' h1 h2 h3 => ⟨h g' h' h3 (p.good g' h' h1 h2 h3).1, (p.good g' h' h1 h2 h3).2⟩⟩

theorem Pc.nil {G : Gh → (Nat → RE) → Prop} (h : ∀ g' h', (∀ b, g.Z b → g'.Z b) → G g' h') : Pc F σ w g [] [] G :=
  ⟨by simp, by simp, by simp, by simp, fun g' h' h1 _ _ => ⟨h g' h' h1, by simp⟩⟩

theorem Pc.append (r : Rl F σ a w g) {i1 i2 : List Nat} {L1 L2 : List Claim} {G1 G2 : Gh → (Nat → RE) → Prop} (p1 : Pc F σ w g i1 L1 G1) (p2 : Pc F σ w g i2 L2 G2) (hn : (i1 ++ i2).Nodup) :
    Pc F σ w g (i1 ++ i2) (L1 ++ L2) (fun g' h' => G1 g' h' ∧ G2 g' h') := by
  have hdis := (List.nodup_append.1 hn).2.2
  have x12 : ∀ id ∈ i1, ∀ b ∈ g.fp id, b ∉ L2.flatMap (·.fp) := by
    intro id hid b hb hm
    obtain ⟨q, h1, h2⟩ := List.mem_flatMap.1 hm
    obtain ⟨id2, h3, h4⟩ := p2.sub q h1 b h2
    exact hdis id hid id2 h3 (r.dj id id2 b hb h4)
  have x21 : ∀ id ∈ i2, ∀ b ∈ g.fp id, b ∉ L1.flatMap (·.fp) := by
    intro id hid b hb hm
    obtain ⟨q, h1, h2⟩ := List.mem_flatMap.1 hm
    obtain ⟨id2, h3, h4⟩ := p1.sub q h1 b h2
    exact hdis id2 h3 id hid (r.dj id2 id b h4 hb)
  refine ⟨?_, ?_, ?_, ?_, ?_⟩
  · intro q hq b hb
    rcases List.mem_append.1 hq with hq | hq
    · obtain ⟨id, h1, h2⟩ := p1.sub q hq b hb; exact ⟨id, by simp [h1], h2⟩
    · obtain ⟨id, h1, h2⟩ := p2.sub q hq b hb; exact ⟨id, by simp [h1], h2⟩
  · rw [List.flatMap_append]
    refine List.nodup_append.2 ⟨p1.nd, p2.nd, ?_⟩
    rintro b h1 b' h2 rfl
    obtain ⟨q, h3, h4⟩ := List.mem_flatMap.1 h1
    obtain ⟨id, h5, h6⟩ := p1.sub q h3 b h4
    exact x12 id h5 b h6 h2
  · intro q hq; exact (List.mem_append.1 hq).elim (p1.inc q) (p2.inc q)
  · intro q hq; exact (List.mem_append.1 hq).elim (p1.nm q) (p2.nm q)
  · intro g' h' hz hid hag
    obtain ⟨k1, k2⟩ := p1.good g' h' hz (fun id h b hb hm => hid id (by simp [h]) b hb (by
      rw [List.flatMap_append, List.mem_append, not_or]
      exact ⟨hm, x12 id h b hb⟩)) hag.left
    obtain ⟨m1, m2⟩ := p2.good g' h' hz (fun id h b hb hm => hid id (by simp [h]) b hb (by
      rw [List.flatMap_append, List.mem_append, not_or]
      exact ⟨x21 id h b hb, hm⟩)) hag.right
    exact ⟨⟨k1, m1⟩, fun q hq => (List.mem_append.1 hq).elim (k2 q) (m2 q)⟩

/-- The whole heap, as the evaluator sees it. -/
theorem hok_self (h : Nat → RE) : HOk h h none := ⟨fun _ _ => rfl, fun _ _ => rfl⟩

theorem packC_sound (r : Rl F σ a w g) {n : Nat} (hn : n < pLim) : ∀ {c : LC} {v : CV} {u : Value} {x : c.ck.den} {ids : List Nat}, packC σ.h v c = some (x, ids) → CVr g w σ.h v u →
    ∃ L : List Claim, (unC n c x).2 = L.map Claim.pr ∧ Pc F σ w g ids L (fun g' h' => CVr g' w h' (unC n c x).1 u) := by
  intro c v u x ids h hu
  cases c with
  | int k =>
    unfold packC at h
    dsimp only at h
    split at h
    · split at h
      · rename_i hk
        subst hk
        simp only [Option.some.injEq, Prod.mk.injEq] at h
        obtain ⟨rfl, rfl⟩ := h
        exact ⟨[], rfl, Pc.nil fun _ _ _ => hu⟩
      · cases h
    · cases h
  | bool =>
    unfold packC at h
    dsimp only at h
    split at h
    · simp only [Option.some.injEq, Prod.mk.injEq] at h
      obtain ⟨rfl, rfl⟩ := h
      exact ⟨[], rfl, Pc.nil fun _ _ _ => hu⟩
    · cases h
  | str =>
    unfold packC at h
    dsimp only at h
    split at h
    · simp only [Option.some.injEq, Prod.mk.injEq] at h
      obtain ⟨rfl, rfl⟩ := h
      exact ⟨[], rfl, Pc.nil fun _ _ _ => hu⟩
    · cases h
  | sl e =>
    unfold packC at h
    dsimp only at h
    refine ⟨[], rfl, by simp, by simp, by simp, by simp, fun g' h' hz hid _ => ⟨?_, by simp⟩⟩
    exact slOf_shared r (hok_self σ.h) h hu hz (fun id hi b hb => hid id hi b hb (by simp))
  | map k e =>
    unfold packC at h
    dsimp only at h
    split at h
    case h_2 => cases h
    rename_i id inc
    split at h
    case h_2 => cases h
    rename_i m hm
    split at h
    case isFalse => cases h
    rename_i hke
    obtain ⟨rfl, rfl⟩ := hke
    obtain ⟨rfl, rfl⟩ := Prod.mk.inj (Option.some.inj h)
    obtain ⟨m1, m2, m3⟩ := mapAt_sound r (hok_self σ.h) hm
    have hloc := hu.2 m2 _ _ _ m3
    have hrr := r.rt id
    unfold RR at hrr
    rw [m3] at hrr
    obtain ⟨hp1, hp2, b, es, clk, n1, n2, n3, n4⟩ := hrr
    refine ⟨[⟨n, ⟨1, 0, .map m.k m.e m.xs⟩, u, [b]⟩], rfl, ?_, by simp, by simp, by simp [hn], ?_⟩
    · intro q hq b' hb
      simp only [List.mem_singleton] at hq
      subst hq
      exact ⟨id, by simp, by rw [n2]; exact hb⟩
    · intro g' h' hz hid hag
      obtain ⟨a1, a2, a3⟩ := hag _ (List.mem_singleton.2 rfl)
      simp only at a1 a2 a3
      refine ⟨⟨⟨by rw [a1]; exact Nat.le_refl _, hu.1.2⟩, fun _ k e xs hc => a2.symm⟩, ?_⟩
      intro q hq
      simp only [List.mem_singleton] at hq
      subst hq
      exact ⟨hp1, hp2, b, es, clk, by rw [hloc, n1], rfl, n3, n4⟩
  | row d e =>
    have key : ∀ {L : List Claim} {fp : List Nat}, L = [⟨n, ⟨1, 0, .row d e x⟩, u, fp⟩] → u.oneCell' = true → (∀ b ∈ fp, ∃ id ∈ ids, b ∈ g.fp id) → fp.Nodup →
        (∀ g' : Gh, (∀ b, g.Z b → g'.Z b) → (∀ id ∈ ids, ∀ b ∈ g.fp id, b ∉ fp → g'.Z b) → Row g'.Z w d e x u fp) → ∃ L : List Claim, (unC n (.row d e) x).2 = L.map Claim.pr ∧ Pc F σ w g ids L (fun g' h' => CVr g' w h' (unC n (.row d e) x).1 u) := by
      rintro L fp rfl hone hsub hnd hrow
      refine ⟨[⟨n, ⟨1, 0, .row d e x⟩, u, fp⟩], rfl, ?_, by simpa using hnd, by simp, by simp [hn], ?_⟩
      · intro q hq b hb
        simp only [List.mem_singleton] at hq
        subst hq
        exact hsub b hb
      · intro g' h' hz hid hag
        obtain ⟨a1, a2, a3⟩ := hag _ (List.mem_singleton.2 rfl)
        simp only at a1 a2 a3
        refine ⟨⟨⟨by rw [a1]; exact Nat.le_refl _, fun _ => Nat.zero_le _, hone⟩, fun d' e' xs' hc _ => a2.symm⟩, ?_⟩
        intro q hq
        simp only [List.mem_singleton] at hq
        subst hq
        exact hrow g' hz (fun id h b hb hm => hid id h b hb (by simpa using hm))
    have hnil : v = .nil → ∃ L : List Claim, (unC n (.row d e) x).2 = L.map Claim.pr ∧ Pc F σ w g ids L (fun g' h' => CVr g' w h' (unC n (.row d e) x).1 u) := by
      rintro rfl
      unfold packC at h
      dsimp only at h
      simp only [slOf, Option.some.injEq, Prod.mk.injEq] at h
      obtain ⟨rfl, rfl⟩ := h
      have hu : u = .slice none 0 0 := hu
      subst hu
      exact key (fp := []) rfl rfl (by simp) (by simp) (fun g' _ _ => ⟨none, 0, rfl, Nat.le_refl _, .inl ⟨rfl, rfl, rfl, rfl⟩⟩)
    cases v with
    | nil => exact hnil rfl
    | row id inc ver p =>
      cases p with
      | cons p1 p2 =>
        unfold packC at h
        dsimp only at h
        simp only [slOf] at h
        split at h
        · split at h <;> cases h
        · cases h
      | nil =>
        unfold packC at h
        dsimp only at h
        split at h
        case h_2 => cases h
        rename_i R hR
        obtain ⟨hck, h⟩ := cond_some h
        simp only [slOf, hR] at h
        split at h
        case h_2 => cases h
        rename_i ys hy
        obtain ⟨rfl, rfl⟩ := Prod.mk.inj (Option.some.inj h)
        obtain ⟨d', zs, rfl, rfl⟩ := Row1.as_some hy
        obtain ⟨A, cap, vs, fs, hs, hA⟩ := row_src (o := ⟨none, .alloc 0, 0, default, #[], none⟩) r (hok_self σ.h) hR hu
        have hone : u.oneCell' = true := by rw [hs.v]; rfl
        simp only at hs hA
        have hndid := r.nd id
        rcases hA with ⟨h1, h2, h3, h4⟩ | ⟨b, off, h1, h2, h3, h4⟩
        · refine key (fp := []) rfl hone (by simp) (by simp) (fun g' _ _ => ⟨none, 0, ?_, ?_, .inl ⟨h2, rfl, rfl, rfl⟩⟩)
          · rw [hs.v, h1, h3]
          · rw [h2]; exact Nat.le_refl _
        · by_cases hdd : d = true ∧ d' = false
          · -- flat elements: nothing is owned below
            obtain ⟨rfl, rfl⟩ := hdd
            have hfl : e.flat = true := by simpa using hck
            refine key (fp := b :: fs) rfl hone (fun b' hb => ⟨id, by simp, by rw [h4]; exact hb⟩) (by rw [← h4]; exact hndid) (fun g' hz _ => ?_)
            refine Row.deep_of_flat (d := false) hfl ⟨A, cap, hs.v, hs.le, .inr ⟨b, off, vs, fs, h1, h2, ?_, rfl, h3⟩⟩
            exact hs.cat.mono _ fun x _ u f _ hx => Has.frame (fun _ _ => rfl) hz hx (fun _ _ => rfl)
          · by_cases hds : d = d'
            · subst hds
              refine key (fp := b :: fs) rfl hone (fun b' hb => ⟨id, by simp, by rw [h4]; exact hb⟩) (by rw [← h4]; exact hndid) (fun g' hz _ => ?_)
              refine ⟨A, cap, hs.v, hs.le, .inr ⟨b, off, vs, fs, h1, h2, ?_, rfl, h3⟩⟩
              exact hs.cat.mono _ fun x _ u f _ hx => Has.frame (fun _ _ => rfl) hz hx (fun _ _ => rfl)
            · have hd0 : d = false := by cases d <;> cases d' <;> simp_all
              subst hd0
              refine key (fp := [b]) rfl hone (fun b' hb => ⟨id, by simp, by rw [h4]; simp at hb; subst hb; simp⟩) (by simp) (fun g' hz hid => ?_)
              refine ⟨A, cap, hs.v, hs.le, .inr ⟨b, off, vs, [], h1, h2, ?_, rfl, h3⟩⟩
              refine Cat.share hz hs.cat fun b' hb => hid id (by simp) b' (by rw [h4]; simp [hb]) ?_
              rw [h4] at hndid
              intro hm
              simp only [List.mem_singleton] at hm
              subst hm
              exact (List.nodup_cons.1 hndid).1 hb
    | sl e' xs => unfold packC at h; cases h
    | undef | int | bool | str | rp | fn | vptr | rsub | ptr | map => unfold packC at h; dsimp only at h; simp [slOf] at h

theorem packCs_sound (r : Rl F σ a w g) : ∀ {cs : List LC} {n : Nat} {vs : List CV} {us : List Value} {x : (lcsK cs).den} {ids : List Nat}, n + cs.length < pLim → packCs σ.h vs cs = some (x, ids) → All2 (CVr g w σ.h) vs us → ids.Nodup →
    vs.length = cs.length ∧ ∃ L : List Claim, (unCs n cs x).2 = L.map Claim.pr ∧ Pc F σ w g ids L (fun g' h' => All2 (CVr g' w h') (unCs n cs x).1 us)
  | [], n, [], us, x, ids, hn, h, hu, hnd => by
    obtain ⟨_, rfl⟩ := Prod.mk.inj (Option.some.inj h)
    match us, hu with
    | [], _ => exact ⟨rfl, [], rfl, Pc.nil fun _ _ _ => trivial⟩
  | [], n, v :: vs, us, x, ids, hn, h, hu, hnd => by cases vs <;> cases h
  | [c], n, [], us, x, ids, hn, h, hu, hnd => by cases h
  | [c], n, v :: v2 :: vs, us, x, ids, hn, h, hu, hnd => by cases h
  | [c], n, [v], us, x, ids, hn, h, hu, hnd => by
    match us, hu with
    | [u], ⟨h1, _⟩ =>
      have h : packC σ.h v c = some (x, ids) := h
      obtain ⟨L, l1, l2⟩ := packC_sound r (n := n) (Nat.lt_of_le_of_lt (Nat.le_add_right _ _) hn) h h1
      exact ⟨rfl, L, l1, l2.mono fun g' h' _ hg => ⟨hg, trivial⟩⟩
  | c :: c2 :: cs, n, [], us, x, ids, hn, h, hu, hnd => by cases h
  | c :: c2 :: cs, n, [v], us, x, ids, hn, h, hu, hnd => by cases h
  | c :: c2 :: cs, n, v :: v2 :: vs, us, x, ids, hn, h, hu, hnd => by
    match us, hu with
    | u :: us, ⟨h1, h2⟩ =>
      have h' : (match packC σ.h v c with
        | some (x, i1) => match packCs σ.h (v2 :: vs) (c2 :: cs) with
          | some (y, i2) => some ((x, y), i1 ++ i2)
          | none => none
        | none => none) = some (x, ids) := h
      clear h
      split at h'
      case h_2 => cases h'
      rename_i x1 i1 hc
      split at h'
      case h_2 => cases h'
      rename_i x2 i2 hcs
      simp only [Option.some.injEq, Prod.mk.injEq] at h'
      obtain ⟨rfl, rfl⟩ := h'
      obtain ⟨L1, l1, l2⟩ := packC_sound r (n := n) (Nat.lt_of_le_of_lt (Nat.le_add_right _ _) hn) hc h1
      obtain ⟨ml, L2, m1, m2⟩ := packCs_sound r (n := n + 1) (by simp only [List.length_cons] at hn ⊢; omega) hcs h2 (List.nodup_append.1 hnd).2.1
      refine ⟨by simp only [List.length_cons] at ml ⊢; omega, L1 ++ L2, ?_, (l2.append r m2 hnd).mono fun g' h' _ hg => hg⟩
      show (unC n c x1).2 ++ (unCs (n + 1) (c2 :: cs) x2).2 = _
      rw [l1, m1, List.map_append]

theorem contP_sound (r : Rl F σ a w g) : ∀ {c : CK} {cs : List CV} {n : Nat} {x : c.den} {ids : List Nat} {rest : List CV} {n' : Nat} {us : List Value}, contP σ.h c cs n = some (x, ids, rest, n') → All2 (CVr g w σ.h) cs us → ids.Nodup →
    ∃ (L : List Claim) (u1 u2 : List Value), us = u1 ++ u2 ∧ All2 (CVr g w σ.h) rest u2 ∧ (expN (fun _ => RE0) true c x n).2.1 = L.map Claim.pr ∧ (expN (fun _ => RE0) true c x n).2.2 = n' ∧ (∃ pre, cs = pre ++ rest ∧ okCs pre = true ∧ pre.length = c.size) ∧ (expN (fun _ => RE0) true c x n).1.length = c.size ∧
      Pc F σ w g ids L (fun g' h' => All2 (CVr g' w h') (expN (fun _ => RE0) true c x n).1 u1)
  | .int k, cs, n, x, ids, rest, n', us, h, hu, hnd => by
    cases cs with
    | nil => simp [contP] at h
    | cons v r' =>
      cases v <;> simp only [contP] at h <;> try cases h
      split at h <;> try cases h
      rename_i hk
      subst hk
      match us, hu with
      | u :: us, ⟨h1, h2⟩ => exact ⟨[], [u], us, rfl, h2, rfl, rfl, ⟨[_], rfl, rfl, rfl⟩, rfl, Pc.nil fun _ _ _ => ⟨h1, trivial⟩⟩
  | .bool, cs, n, x, ids, rest, n', us, h, hu, hnd => by
    cases cs with
    | nil => simp [contP] at h
    | cons v r' =>
      cases v <;> simp only [contP] at h <;> try cases h
      match us, hu with
      | u :: us, ⟨h1, h2⟩ => exact ⟨[], [u], us, rfl, h2, rfl, rfl, ⟨[_], rfl, rfl, rfl⟩, rfl, Pc.nil fun _ _ _ => ⟨h1, trivial⟩⟩
  | .str, cs, n, x, ids, rest, n', us, h, hu, hnd => by
    cases cs with
    | nil => simp [contP] at h
    | cons v r' =>
      cases v <;> simp only [contP] at h <;> try cases h
      match us, hu with
      | u :: us, ⟨h1, h2⟩ => exact ⟨[], [u], us, rfl, h2, rfl, rfl, ⟨[_], rfl, rfl, rfl⟩, rfl, Pc.nil fun _ _ _ => ⟨h1, trivial⟩⟩
  | .unit, cs, n, x, ids, rest, n', us, h, hu, hnd => by
    have h' : some ((), ([] : List Nat), cs, n) = some (x, ids, rest, n') := by cases cs <;> exact h
    simp only [Option.some.injEq, Prod.mk.injEq] at h'
    obtain ⟨_, rfl, rfl, rfl⟩ := h'
    exact ⟨[], [], us, rfl, hu, rfl, rfl, ⟨[], rfl, rfl, rfl⟩, rfl, Pc.nil fun _ _ _ => trivial⟩
  | .sl e, cs, n, x, ids, rest, n', us, h, hu, hnd => by
    cases cs with
    | nil => simp [contP] at h
    | cons v r' =>
      cases v with
      | undef | int | bool | str | nil | sl | rp | fn | vptr | rsub | ptr | map => rw [contP.eq_def] at h; cases h
      | row id inc ver p =>
      match inc, p, h with
      | 1, [], h =>
        have h' : (bif Nat.beq id n then match σ.h n with
          | ⟨1, _, .row d e' xs⟩ => bif d || e.flat then (if h : e' = e then some (castL h xs, [n], r', n + 1) else none) else none
          | _ => none
        else none) = some (x, ids, rest, n') := h
        clear h
        obtain ⟨hid, h⟩ := cond_some h'
        have hid := Nat.eq_of_beq_eq_true hid
        subst hid
        split at h
        case h_2 => cases h
        rename_i v0 d e' xs hH
        obtain ⟨hdf, h⟩ := cond_some h
        split at h
        case isFalse => cases h
        rename_i he
        subst he
        simp only [Option.some.injEq, Prod.mk.injEq, castL_id] at h
        obtain ⟨rfl, rfl, rfl, rfl⟩ := h
        match us, hu with
        | u :: us, ⟨h1, h2⟩ =>
          have hloc : u = g.loc id := h1.2 d e' xs (by rw [hH]) ⟨by rw [hH], .inl rfl⟩
          have hrow : Row g.Z w d e' xs (g.loc id) (g.fp id) := by
            have := r.rt id
            unfold RR at this
            rw [hH] at this
            exact this
          have hrow' : Row g.Z w true e' xs u (g.fp id) := by
            rw [hloc]
            rw [Bool.or_eq_true] at hdf
            rcases hdf with hd | hd
            · rw [hd] at hrow; exact hrow
            · exact Row.deep_of_flat hd hrow
          refine ⟨[⟨id, ⟨1, 0, .row true e' xs⟩, u, g.fp id⟩], [u], us, rfl, h2, rfl, rfl, ⟨[_], rfl, rfl, rfl⟩, rfl, ?_, ?_, ?_, ?_, ?_⟩
          · intro q hq b hb
            simp only [List.mem_singleton] at hq
            subst hq
            exact ⟨id, by simp, hb⟩
          · simpa using r.nd id
          · simp
          · intro q hq
            simp only [List.mem_singleton] at hq
            subst hq
            exact .inr ⟨by rw [hH], hloc⟩
          · intro g' h' hz hid hag
            obtain ⟨a1, a2, a3⟩ := hag _ (List.mem_singleton.2 rfl)
            simp only at a1 a2 a3
            refine ⟨⟨⟨⟨by rw [a1]; exact Nat.le_refl _, fun _ => Nat.zero_le _, h1.1.2.2⟩, fun d' e' xs' hc _ => a2.symm⟩, trivial⟩, ?_⟩
            intro q hq
            simp only [List.mem_singleton] at hq
            subst hq
            exact hrow'.frame (fun _ _ => rfl) fun x u f _ hx => Has.frame (fun _ _ => rfl) hz hx (fun _ _ => rfl)
      | 0, _, h => rw [contP.eq_def] at h; cases h
      | _ + 2, _, h => rw [contP.eq_def] at h; cases h
      | 1, _ :: _, h => rw [contP.eq_def] at h; cases h
  | .pair p q, cs, n, x, ids, rest, n', us, h, hu, hnd => by
    have h' : (match contP σ.h p cs n with
      | some (x, i1, r, i) => match contP σ.h q r i with
        | some (y, i2, r, i) => some ((x, y), i1 ++ i2, r, i)
        | none => none
      | none => none) = some (x, ids, rest, n') := by
        cases cs <;> exact h
    clear h
    split at h'
    case h_2 => cases h'
    rename_i x1 i1 r1 n1 hp
    split at h'
    case h_2 => cases h'
    rename_i x2 i2 r2 n2 hq
    simp only [Option.some.injEq, Prod.mk.injEq] at h'
    obtain ⟨rfl, rfl, rfl, rfl⟩ := h'
    obtain ⟨L1, u1, u2, rfl, l2, l3, l4, ⟨pre1, l5, l5a, l5b⟩, l6, l7⟩ := contP_sound r hp hu (List.nodup_append.1 hnd).1
    obtain ⟨L2, v1, v2, rfl, m2, m3, m4, ⟨pre2, m5, m5a, m5b⟩, m6, m7⟩ := contP_sound r hq l2 (List.nodup_append.1 hnd).2.1
    refine ⟨L1 ++ L2, u1 ++ v1, v2, by simp, m2, ?_, ?_, ⟨pre1 ++ pre2, by rw [l5, m5]; simp, by rw [okCs_append, l5a, m5a]; rfl, by rw [List.length_append, l5b, m5b]; rfl⟩, ?_, (l7.append r m7 hnd).mono fun g' h' _ hg => ?_⟩
    · show (expN _ true p x1 n).2.1 ++ (expN _ true q x2 (expN _ true p x1 n).2.2).2.1 = _
      rw [l4, l3, m3, List.map_append]
    · show (expN _ true q x2 (expN _ true p x1 n).2.2).2.2 = _
      rw [l4]
      exact m4
    · show ((expN _ true p x1 n).1 ++ (expN _ true q x2 (expN _ true p x1 n).2.2).1).length = _
      rw [l4, List.length_append, l6, m6]
      rfl
    · show All2 _ ((expN _ true p x1 n).1 ++ (expN _ true q x2 (expN _ true p x1 n).2.2).1) _
      rw [l4]
      exact hg.1.append hg.2
end
end VM
