/- Functions: how they end; the contract. -/
import Derived.Test.YtljofbhokcdklaaVNc
set_option linter.unusedVariables false
set_option linter.unusedSimpArgs false
namespace VM
open Go

section
variable {P : Program} {F : Fx} {σ : St} {a : Act} {w : World} {g : Gh} {R : Type} {tt : List (Nat × TD)} {env : List Ct} {k : Nat} {o : Oper} {y : R}

/-- What goes out: the blocks 'f', out of those of the roots 'ids'. -/
structure Po (g : Gh) (ids : List Nat) (f : List Nat) (Good : (Nat → Prop) → Prop) : Prop where
  sub : ∀ b ∈ f, ∃ id ∈ ids, b ∈ g.fp id
  nd : f.Nodup
  good : ∀ Z', (∀ b, g.Z b → Z' b) → (∀ id ∈ ids, ∀ b ∈ g.fp id, b ∉ f → Z' b) → Good Z'

theorem Po.mono {ids f : List Nat} {G G' : (Nat → Prop) → Prop} (p : Po g ids f G) (h : ∀ Z', G Z' → G' Z') : Po g ids f G' := ⟨p.sub, p.nd, fun Z' h1 h2 => h Z' (p.good Z' h1 h2)⟩
theorem Po.nil {G : (Nat → Prop) → Prop} (h : ∀ Z', G Z') : Po g [] [] G := ⟨by simp, by simp, fun Z' _ _ => h Z'⟩
theorem Po.append (r : Rl F σ a w g) {i1 i2 f1 f2 : List Nat} {G1 G2 : (Nat → Prop) → Prop} (p1 : Po g i1 f1 G1) (p2 : Po g i2 f2 G2) (hn : (i1 ++ i2).Nodup) : Po g (i1 ++ i2) (f1 ++ f2) (fun Z' => G1 Z' ∧ G2 Z') := by
  have hdis := (List.nodup_append.1 hn).2.2
  have x12 : ∀ id ∈ i1, ∀ b ∈ g.fp id, b ∉ f2 := by
    intro id hid b hb hm
    obtain ⟨id2, h3, h4⟩ := p2.sub b hm
    exact hdis id hid id2 h3 (r.dj id id2 b hb h4)
  have x21 : ∀ id ∈ i2, ∀ b ∈ g.fp id, b ∉ f1 := by
    intro id hid b hb hm
    obtain ⟨id2, h3, h4⟩ := p1.sub b hm
    exact hdis id2 h3 id hid (r.dj id2 id b h4 hb)
  refine ⟨?_, ?_, ?_⟩
  · intro b hb
    rcases List.mem_append.1 hb with hb | hb
    · obtain ⟨id, h1, h2⟩ := p1.sub b hb; exact ⟨id, by simp [h1], h2⟩
    · obtain ⟨id, h1, h2⟩ := p2.sub b hb; exact ⟨id, by simp [h1], h2⟩
  · refine List.nodup_append.2 ⟨p1.nd, p2.nd, ?_⟩
    rintro b h1 b' h2 rfl
    obtain ⟨id, h5, h6⟩ := p1.sub b h1
    exact x12 id h5 b h6 h2
  · intro Z' hz hid
    exact ⟨p1.good Z' hz (fun id h b hb hm => hid id (by simp [h]) b hb (by rw [List.mem_append, not_or]; exact ⟨hm, x12 id h b hb⟩)),
      p2.good Z' hz (fun id h b hb hm => hid id (by simp [h]) b hb (by rw [List.mem_append, not_or]; exact ⟨x21 id h b hb, hm⟩))⟩

theorem outK_sound (r : Rl F σ a w g) {d : Bool} : ∀ {c : CK} {cs : List CV} {x : c.den} {ids : List Nat} {rest : List CV}, outK σ.h d c cs = some (x, ids, rest) → ids.Nodup → ∀ {us : List Value}, All2 (CVr g w σ.h) cs us →
    ∃ f u1 u2, us = u1 ++ u2 ∧ All2 (CVr g w σ.h) rest u2 ∧ Po g ids f (fun Z' => HasO Z' w d c x u1 f)
  | .int kk, cs, x, ids, rest, h, hnd, us, hu => by
    cases cs with
    | nil => cases h
    | cons v r' =>
      cases v with
      | int k' n =>
        have h2 : (if kk = k' then some (n, ([] : List Nat), r') else none) = some (x, ids, rest) := h
        clear h
        split at h2
        case isFalse => cases h2
        rename_i hk
        subst hk
        obtain ⟨rfl, h3⟩ := Prod.mk.inj (Option.some.inj h2)
        obtain ⟨rfl, rfl⟩ := Prod.mk.inj h3
        match us, hu with
        | u :: us, ⟨h1, h2⟩ => exact ⟨[], [u], us, rfl, h2, Po.nil fun _ => ⟨by rw [show u = _ from h1], rfl⟩⟩
      | _ => cases h
  | .bool, cs, x, ids, rest, h, hnd, us, hu => by
    cases cs with
    | nil => cases h
    | cons v r' =>
      cases v with
      | bool b =>
        have h : some (b, ([] : List Nat), r') = some (x, ids, rest) := h
        simp only [Option.some.injEq, Prod.mk.injEq] at h
        obtain ⟨rfl, rfl, rfl⟩ := h
        match us, hu with
        | u :: us, ⟨h1, h2⟩ => exact ⟨[], [u], us, rfl, h2, Po.nil fun _ => ⟨by rw [show u = _ from h1], rfl⟩⟩
      | _ => cases h
  | .str, cs, x, ids, rest, h, hnd, us, hu => by
    cases cs with
    | nil => cases h
    | cons v r' =>
      cases v with
      | str s =>
        have h : some (s, ([] : List Nat), r') = some (x, ids, rest) := h
        simp only [Option.some.injEq, Prod.mk.injEq] at h
        obtain ⟨rfl, rfl, rfl⟩ := h
        match us, hu with
        | u :: us, ⟨h1, h2⟩ => exact ⟨[], [u], us, rfl, h2, Po.nil fun _ => ⟨by rw [show u = _ from h1], rfl⟩⟩
      | _ => cases h
  | .unit, cs, x, ids, rest, h, hnd, us, hu => by
    have h' : some ((), ([] : List Nat), cs) = some (x, ids, rest) := by cases cs <;> exact h
    simp only [Option.some.injEq, Prod.mk.injEq] at h'
    obtain ⟨_, rfl, rfl⟩ := h'
    exact ⟨[], [], us, rfl, hu, Po.nil fun _ => ⟨rfl, rfl⟩⟩
  | .sl e, cs, x, ids, rest, h, hnd, us, hu => by
    cases cs with
    | nil => cases h
    | cons v r' =>
      have h' : (match packC σ.h v (.row d e) with | some (xs, ids) => some (xs, ids, r') | none => none) = some ((x : (LC.row d e).ck.den), ids, rest) := h
      clear h
      split at h'
      case h_2 => cases h'
      rename_i xs0 i1 hp
      simp only [Option.some.injEq, Prod.mk.injEq] at h'
      obtain ⟨rfl, rfl, rfl⟩ := h'
      match us, hu with
      | u :: us, ⟨h1, h2⟩ =>
        obtain ⟨L, l1, l2⟩ := packC_sound r (n := 0) (by unfold pLim; omega) hp h1
        have l1 : [((0 : Nat), (⟨1, 0, .row d e x⟩ : RE))] = L.map Claim.pr := l1
        match L, l1 with
        | [q], l1 =>
          simp only [List.map_cons, List.map_nil, List.cons.injEq, and_true] at l1
          have hre : q.re = ⟨1, 0, .row d e x⟩ := (congrArg Prod.snd l1).symm
          refine ⟨q.fp, [u], us, rfl, h2, fun b hb => l2.sub q (by simp) b hb, by simpa using l2.nd, fun Z' hz hid => ?_⟩
          let g' : Gh := ⟨Z', fun _ => q.loc, fun _ => q.fp⟩
          obtain ⟨k1, k2⟩ := l2.good g' (fun _ => q.re) hz (fun id h b hb hm => hid id h b hb (by simpa using hm)) (fun p hp => by
            simp only [List.mem_singleton] at hp
            subst hp
            exact ⟨rfl, rfl, rfl⟩)
          have hrr := k2 q (by simp)
          rw [hre] at hrr
          have hrow : Row Z' w d e x q.loc q.fp := hrr
          have hloc : u = q.loc := k1.2 d e x (by rw [hre]) ⟨by rw [hre], .inl rfl⟩
          exact ⟨u, rfl, by rw [hloc]; exact hrow⟩
        | [], l1 => simp at l1
        | _ :: _ :: _, l1 => simp at l1
  | .pair p q, cs, x, ids, rest, h, hnd, us, hu => by
    have h' : (match outK σ.h d p cs with
      | some (x, i1, r1) => match outK σ.h d q r1 with
        | some (y, i2, r2) => some ((x, y), i1 ++ i2, r2)
        | none => none
      | none => none) = some (x, ids, rest) := by
        cases cs <;> exact h
    clear h
    split at h'
    case h_2 => cases h'
    rename_i x1 i1 r1 hp
    split at h'
    case h_2 => cases h'
    rename_i x2 i2 r2 hq
    simp only [Option.some.injEq, Prod.mk.injEq] at h'
    obtain ⟨rfl, rfl, rfl⟩ := h'
    obtain ⟨L1, u1, u2, rfl, l2, l3⟩ := outK_sound r hp (List.nodup_append.1 hnd).1 hu
    obtain ⟨L2, v1, v2, rfl, m2, m3⟩ := outK_sound r hq (List.nodup_append.1 hnd).2.1 l2
    exact ⟨L1 ++ L2, u1 ++ v1, v2, by simp, m2, (l3.append r m3 hnd).mono fun Z' hg => ⟨u1, v1, _, _, rfl, rfl, hg.1, hg.2⟩⟩

theorem ressOut_sound (r : Rl F σ a w g) : ∀ {rs : List (RM × CK)} {vs : List SV} {x : (resK rs).den} {T B : List Nat}, ressOut σ.h rs vs = some (x, T, B) → T.Nodup → ∀ {us : List Value}, All2 (SVr g w σ.h) vs us →
    ∃ f, Po g T f (fun Z' => (∀ id ∈ B, ∀ b ∈ g.fp id, Z' b) → (∀ b, g.Z b → Z' b) → RessR Z' w rs x us f)
  | [], [], x, T, B, h, hnd, us, hu => by
    obtain ⟨_, h⟩ := Prod.mk.inj (Option.some.inj h)
    obtain ⟨rfl, rfl⟩ := Prod.mk.inj h
    match us, hu with
    | [], _ => exact ⟨[], Po.nil fun _ _ _ => rfl⟩
  | [], _ :: _, x, T, B, h, hnd, us, hu => by cases h
  | (.imm, c) :: rs, [], x, T, B, h, hnd, us, hu => by cases h
  | (.own d, c) :: rs, [], x, T, B, h, hnd, us, hu => by cases h
  | (.imm, c) :: rs, v :: vs, x, T, B, h, hnd, us, hu => by
    have h' : (match gathV σ.h .bor c v with
      | some (x, ids) => match ressOut σ.h rs vs with
        | some (y, T, B) => some ((x, y), T, ids ++ B)
        | none => none
      | none => none) = some ((x : c.den × (resK rs).den), T, B) := h
    clear h
    split at h'
    case h_2 => cases h'
    rename_i x1 ids hg
    split at h'
    case h_2 => cases h'
    rename_i x2 T2 B2 hr
    simp only [Option.some.injEq, Prod.mk.injEq] at h'
    obtain ⟨rfl, rfl, rfl⟩ := h'
    match us, hu with
    | u :: us, ⟨h1, h2⟩ =>
      obtain ⟨L, l1⟩ := ressOut_sound r hr hnd h2
      obtain ⟨k1, k2, k3, k4⟩ := gathV_some hg
      refine ⟨L, l1.mono fun Z' hg hB hz => ⟨?_, hg (fun id hi => hB id (by simp [hi])) hz⟩⟩
      obtain ⟨u1, u2, e1, e2, e3⟩ := gath_shared (d := none) (Z' := Z') r (hok_self σ.h) hz k2 (h1.cells k3) (fun id hi => hB id (by simp [hi]))
      have := rest_nil e1 e3
      subst this
      exact ⟨_, shape_val k1 h1 k3, e2⟩
  | (.own d, c) :: rs, v :: vs, x, T, B, h, hnd, us, hu => by
    have h' : (match outV σ.h d c v with
      | some (x, ids) => match ressOut σ.h rs vs with
        | some (y, T, B) => some ((x, y), ids ++ T, B)
        | none => none
      | none => none) = some ((x : c.den × (resK rs).den), T, B) := h
    clear h
    split at h'
    case h_2 => cases h'
    rename_i x1 ids hg
    split at h'
    case h_2 => cases h'
    rename_i x2 T2 B2 hr
    simp only [Option.some.injEq, Prod.mk.injEq] at h'
    obtain ⟨rfl, rfl, rfl⟩ := h'
    match us, hu with
    | u :: us, ⟨h1, h2⟩ =>
      obtain ⟨L, l1⟩ := ressOut_sound r hr (List.nodup_append.1 hnd).2.1 h2
      unfold outV at hg
      obtain ⟨hck, hg⟩ := cond_some hg
      rw [Bool.and_eq_true] at hck
      split at hg
      case h_2 => cases hg
      rename_i x3 i3 ho
      simp only [Option.some.injEq, Prod.mk.injEq] at hg
      obtain ⟨rfl, rfl⟩ := hg
      obtain ⟨M, u1, u2, e1, e2, e3⟩ := outK_sound r ho (List.nodup_append.1 hnd).1 (h1.cells hck.2)
      have := rest_nil e1 e2
      subst this
      exact ⟨M ++ L, (e3.append r l1 hnd).mono fun Z' hg hB hz => ⟨_, M, L, rfl, shape_val hck.1 h1 hck.2, hg.1, hg.2 hB hz⟩⟩
  | (.pts, c) :: rs, [], x, T, B, h, hnd, us, hu => by cases h
  | (.pts, c) :: rs, v :: vs, x, T, B, h, hnd, us, hu => by
    have h' : (match (generalizing := false) v with
      | .one (.vptr id inc 0) => match varAt σ.h id inc with
        | some cs => match gathAll σ.h .shr c cs with
          | some (x, []) => match ressOut σ.h rs vs with
            | some (y, T, B) => some ((x, y), id :: T, B)
            | none => none
          | _ => none
        | none => none
      | _ => none) = some ((x : c.den × (resK rs).den), T, B) := h
    clear h
    split at h'
    case h_2 => cases h'
    rename_i id inc
    split at h'
    case h_2 => cases h'
    rename_i cs hcs
    split at h'
    case h_2 => cases h'
    rename_i x1 hg
    split at h'
    case h_2 => cases h'
    rename_i x2 T2 B2 hr
    simp only [Option.some.injEq, Prod.mk.injEq] at h'
    obtain ⟨rfl, rfl, rfl⟩ := h'
    match us, hu with
    | u :: us, ⟨h1, h2⟩ =>
      obtain ⟨L, l1⟩ := ressOut_sound r hr (List.nodup_cons.1 hnd).2 h2
      obtain ⟨k1, k2, k3⟩ := varAt_sound (o := ⟨none, .alloc 0, 0, default, #[], none⟩) r (hok_self σ.h) hcs
      obtain ⟨b, hloc, hptr⟩ := h1.2 k2 cs k3
      have hrr := r.rt id
      unfold RR at hrr
      rw [k3] at hrr
      obtain ⟨b', us', ty, m1, m2, m3, m4⟩ := hrr
      rw [hloc] at m1
      cases m1
      obtain ⟨u1, u2, e1, e2, e3⟩ := gath_shared (d := none) (Z' := g.Z) r (hok_self σ.h) (fun _ h => h) (gathAll_some hg).1 m4 (by simp)
      have := rest_nil e1 e3
      subst this
      have p0 : Po g [id] [b] (fun Z' => (∀ b, g.Z b → Z' b) → Has Z' w false c x1 us' []) :=
        ⟨fun b1 hb => ⟨id, by simp, by rw [m2]; exact hb⟩, by simp, fun Z' hz _ hz' => e2.frame (fun _ _ => rfl) hz' (by simp)⟩
      exact ⟨[b] ++ L, (p0.append r l1 hnd).mono fun Z' hg hB hz => ⟨b, us', ty, L, rfl, hptr, m3, hg.1 hz, hg.2 hB hz⟩⟩

theorem resSV_sound (htt : TTok P tt) (r : Rl F σ a w g) (rv : ResultVar) (hne : resSV tt σ rv ≠ .one .undef ∨ ∃ t, rv = .tmp t) :
    ∃ u, ((match rv with | .tmp t => pure (a.tmps.getD t undef) | .cell c t => do loadVar t (← asAddr (a.tmps.getD c undef))) : Sem Value).run P w = .ok u w ∧ SVr g w σ.h (resSV tt σ rv) u := by
  cases rv with
  | tmp t => exact ⟨_, rfl, r.sl t⟩
  | cell c t =>
    rcases hne with hne | ⟨t', ht'⟩
    case inr => cases ht'
    simp only [resSV] at hne ⊢
    split at hne
    case h_2 => exact absurd rfl hne
    rename_i id inc off kd hs hk
    split at hne
    case h_2 => exact absurd rfl hne
    rename_i i v cs hH
    cases hb : (Nat.beq i inc && Nat.ble (off + kd.size) cs.length) with
    | false => rw [hb] at hne; exact absurd rfl hne
    | true =>
      rw [Bool.and_eq_true, Nat.ble_eq] at hb
      obtain ⟨hb1, hb2⟩ := hb
      have hi := Nat.eq_of_beq_eq_true hb1
      have hv := r.sl c
      rw [hs] at hv
      obtain ⟨b, hloc, hptr⟩ := hv.2 (by rw [hH]; exact hi.symm) cs (by rw [hH])
      have hrr := r.rt id
      unfold RR at hrr
      rw [hH] at hrr
      obtain ⟨b', us, ty, n1, n2, n3, n4⟩ := hrr
      rw [hloc] at n1
      cases n1
      have hul := n4.length
      obtain ⟨bb, fs, hl⟩ := kindT_some hk
      have hcell : CellsAt w b off ((us.drop off).take kd.size) := by
        intro j u hu
        rw [cell_of_row w b (off + j) _ ty _ n3]
        rw [List.getElem?_take] at hu
        split at hu
        · rw [List.getElem?_drop] at hu
          simpa using hu
        · cases hu
      have run := run_loadVar (htt.is t kd bb fs hl) hcell (by rw [List.length_take, List.length_drop]; omega)
      refine ⟨valV kd ((us.drop off).take kd.size), ?_, ?_⟩
      · simp only [Sem.run_bind]
        rw [show a.tmps.getD c undef = .pointer (some ⟨b, off, none⟩) from hptr]
        simp only [asAddr, Sem.run_pure, Result.andThen_ok]
        exact run
      · exact toSV_sound ((n4.drop off).take kd.size) (by rw [List.length_take, List.length_drop]; omega)
end
end VM
