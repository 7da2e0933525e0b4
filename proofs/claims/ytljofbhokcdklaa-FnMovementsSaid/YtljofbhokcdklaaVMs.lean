/- Calls. -/
import Derived.Test.YtljofbhokcdklaaVMr
import Derived.Conc.MuLone
set_option linter.unusedVariables false
set_option linter.unusedSimpArgs false
namespace VM
open Go

theorem valV_inj {c : CK} {us vs : List Value} (h : valV c us = valV c vs) (h1 : us.length = c.size) (h2 : vs.length = c.size) : us = vs := by
  unfold valV at h
  cases hc : c.isAgg with
  | true =>
    rw [hc] at h
    simpa using h
  | false =>
    rw [hc] at h
    have hs := size_of_not_agg hc
    rw [hs] at h1 h2
    match us, vs, h1, h2 with
    | [u], [v], _, _ =>
      have : u = v := h
      rw [this]

theorem Has.deepZ {Z Z2 : Nat → Prop} {w : World} : ∀ {c : CK} {x : c.den} {us : List Value} {fp : List Nat}, Has Z w true c x us fp → Has Z2 w true c x us fp
  | .int _, _, _, _, h => h
  | .bool, _, _, _, h => h
  | .str, _, _, _, h => h
  | .unit, _, _, _, h => h
  | .pair a b, x, us, fp, ⟨u1, u2, f1, f2, h1, h2, h3, h4⟩ => ⟨u1, u2, f1, f2, h1, h2, h3.deepZ, h4.deepZ⟩
  | .sl e, xs, us, fp, ⟨v, hu, h⟩ => by
    rcases h with ⟨h0, h⟩ | ⟨h, _⟩
    · exact ⟨v, hu, .inl ⟨h0, RowOwn.frame h (fun _ _ => rfl) (fun x u f _ hx => Has.deepZ hx)⟩⟩
    · cases h

theorem HasO.lend {Z Z2 : Nat → Prop} {w : World} {d : Bool} : ∀ {c : CK} {x : c.den} {us : List Value} {fp : List Nat}, (d || c.flat1) = true → HasO Z w d c x us fp → HasO Z2 w d c x us fp
  | .int _, _, _, _, _, h => h
  | .bool, _, _, _, _, h => h
  | .str, _, _, _, _, h => h
  | .unit, _, _, _, _, h => h
  | .pair a b, x, us, fp, hd, ⟨u1, u2, f1, f2, h1, h2, h3, h4⟩ => by
    have : (d || a.flat1) = true ∧ (d || b.flat1) = true := by
      cases d
      · simpa [CK.flat1] using hd
      · simp
    exact ⟨u1, u2, f1, f2, h1, h2, h3.lend this.1, h4.lend this.2⟩
  | .sl e, xs, us, fp, hd, ⟨v, hu, h⟩ => by
    refine ⟨v, hu, ?_⟩
    cases d with
    | true => exact RowOwn.frame h (fun _ _ => rfl) (fun x u f _ hx => Has.deepZ hx)
    | false =>
      have hf : e.flat = true := by simpa [CK.flat1] using hd
      refine RowOwn.frame h (fun _ _ => rfl) fun x u f _ hx => ?_
      obtain ⟨rfl, k⟩ := Has.flat hf hx
      exact k _ _ _

theorem MutsR.lend {Z Z2 : Nat → Prop} {w : World} : ∀ {ps : List (PM × CK)} {y : (mutK ps).den} {us : List Value} {fp : List Nat}, noPts ps = true → MutsR Z w ps y us fp → MutsR Z2 w ps y us fp
  | [], _, [], _, _, h => h
  | [], _, _ :: _, _, _, h => h.elim
  | (.fn _, _) :: ps, y, _ :: us, fp, n, h => MutsR.lend (ps := ps) n h
  | (.imm, _) :: ps, y, _ :: us, fp, n, h => MutsR.lend (ps := ps) n h
  | (.own, _) :: ps, y, _ :: us, fp, n, h => MutsR.lend (ps := ps) n h
  | (.mut, c) :: ps, y, v :: us, fp, n, ⟨vs, f1, f2, h1, h2, h3, h4, h5⟩ => ⟨vs, f1, f2, h1, h2, h3, h4.deepZ, MutsR.lend n h5⟩
  | (.ptr, c) :: ps, y, v :: us, fp, n, ⟨b, vs, ty, f1, f2, h1, h2, h3, h4, h5⟩ => ⟨b, vs, ty, f1, f2, h1, h2, h3, h4.deepZ, MutsR.lend n h5⟩
  | (.pts, _) :: _, _, _ :: _, _, n, _ => by cases n
  | (.fn _, _) :: _, _, [], _, _, h => h.elim
  | (.imm, _) :: _, _, [], _, _, h => h.elim
  | (.own, _) :: _, _, [], _, _, h => h.elim
  | (.mut, _) :: _, _, [], _, _, h => h.elim
  | (.ptr, _) :: _, _, [], _, _, h => h.elim
  | (.pts, _) :: _, _, [], _, _, h => h.elim

/-- .. with more that may be shared. -/
theorem MutsR.more {Z Z2 : Nat → Prop} {w : World} (hz : ∀ b, Z b → Z2 b) : ∀ {ps : List (PM × CK)} {y : (mutK ps).den} {us : List Value} {fp : List Nat}, MutsR Z w ps y us fp → MutsR Z2 w ps y us fp
  | [], _, [], _, h => h
  | [], _, _ :: _, _, h => h.elim
  | (.fn _, _) :: ps, y, _ :: us, fp, h => MutsR.more hz (ps := ps) h
  | (.imm, _) :: ps, y, _ :: us, fp, h => MutsR.more hz (ps := ps) h
  | (.own, _) :: ps, y, _ :: us, fp, h => MutsR.more hz (ps := ps) h
  | (.mut, c) :: ps, y, v :: us, fp, ⟨vs, f1, f2, h1, h2, h3, h4, h5⟩ => ⟨vs, f1, f2, h1, h2, h3, h4.deepZ, MutsR.more hz h5⟩
  | (.ptr, c) :: ps, y, v :: us, fp, ⟨b, vs, ty, f1, f2, h1, h2, h3, h4, h5⟩ => ⟨b, vs, ty, f1, f2, h1, h2, h3, h4.deepZ, MutsR.more hz h5⟩
  | (.pts, c) :: ps, y, v :: us, fp, ⟨b, vs, ty, f2, h1, h2, h3, h4, h5⟩ => ⟨b, vs, ty, f2, h1, h2, h3, h4.frame (fun _ _ => rfl) hz (by simp), MutsR.more hz h5⟩
  | (.fn _, _) :: _, _, [], _, h => h.elim
  | (.imm, _) :: _, _, [], _, h => h.elim
  | (.own, _) :: _, _, [], _, h => h.elim
  | (.mut, _) :: _, _, [], _, h => h.elim
  | (.ptr, _) :: _, _, [], _, h => h.elim
  | (.pts, _) :: _, _, [], _, h => h.elim

theorem RessR.lend {Z Z2 : Nat → Prop} {w : World} : ∀ {rs : List (RM × CK)} {y : (resK rs).den} {vs : List Value} {fp : List Nat}, flatRs rs = true → RessR Z w rs y vs fp → RessR Z2 w rs y vs fp
  | [], _, [], _, _, h => h
  | [], _, _ :: _, _, _, h => h.elim
  | (.imm, c) :: rs, y, v :: vs, fp, hf, ⟨⟨us, hv, hh⟩, h⟩ => by
    simp only [flatRs, Bool.and_eq_true] at hf
    exact ⟨⟨us, hv, (Has.flat hf.1 hh).2 _ _ _⟩, RessR.lend hf.2 h⟩
  | (.own d, c) :: rs, y, v :: vs, fp, hf, ⟨us, f1, f2, h1, h2, h3, h4⟩ => by
    simp only [flatRs, Bool.and_eq_true] at hf
    exact ⟨us, f1, f2, h1, h2, h3.lend hf.1, RessR.lend hf.2 h4⟩
  | (.pts, _) :: _, _, _ :: _, _, hf, _ => by cases hf
  | (.imm, _) :: _, _, [], _, _, h => h.elim
  | (.own _, _) :: _, _, [], _, _, h => h.elim
  | (.pts, _) :: _, _, [], _, _, h => h.elim

section
variable {P : Program} {F : Fx} {σ : St} {a : Act} {w : World} {g : Gh} {R : Type} {tt : List (Nat × TD)} {env : List Ct} {k : Nat} {o : Oper} {H : Nat → RE} {K : Upd → Option R} {y : R}

theorem args_sound (r : Rl F σ a w g) (hH : HOk H σ.h o.dst) {Zc : Nat → Prop} (hZ : ∀ b, g.Z b → Zc b) : ∀ {ps : List (PM × CK)} {vs : List SV} {x : (inK ps).den} {B U T : List Nat}, argsOf H ps vs = some (x, B, U, T) → (U ++ T).Nodup →
    ∀ {us : List Value}, All2 (SVr g w σ.h) vs us → (∀ id ∈ B, ∀ b ∈ g.fp id, Zc b) →
      ∃ f I, InsR Zc w ps x us f ∧ f.Nodup ∧ (∀ b ∈ f, ∃ id ∈ I, b ∈ g.fp id) ∧ I.Perm (U ++ T) ∧ (∀ id ∈ I, H id = σ.h id) ∧
        ∀ {y : (mutK ps).den} {n : Nat} {hm : List (Nat × RE)} {n' : Nat}, mutOf H ps vs y n = some (hm, n') → ∀ {Z' : Nat → Prop} {w' : World} {fm : List Nat}, MutsR Z' w' ps y us fm →
          (∀ b, g.Z b → w'.heap[b]? = w.heap[b]?) → (∀ b, g.Z b → Z' b) → (∀ id ∈ I, ∀ b ∈ g.fp id, b ∉ f → w'.heap[b]? = w.heap[b]?) →
          ∃ L : List Claim, hm = L.map Claim.pr ∧ n ≤ n' ∧ UpdL σ g H n n' U I f fm L Z' w'
  | [], [], x, B, U, T, h, hnd, us, hu, hB => by
    simp only [argsOf, Option.some.injEq, Prod.mk.injEq] at h
    obtain ⟨_, _, rfl, rfl⟩ := h
    match us, hu with
    | [], _ =>
      refine ⟨[], [], rfl, by simp, by simp, List.Perm.refl _, by simp, ?_⟩
      intro y n hm n' hy Z' w' fm hM _ _ _
      simp only [mutOf, Option.some.injEq, Prod.mk.injEq] at hy
      obtain ⟨rfl, rfl⟩ := hy
      have : fm = [] := hM
      subst this
      exact ⟨[], rfl, Nat.le_refl _, UpdL.nil⟩
  | [], _ :: _, x, B, U, T, h, _, us, hu, hB => by simp [argsOf] at h
  | _ :: _, [], x, B, U, T, h, _, us, hu, hB => by simp [argsOf] at h
  | (m, c) :: ps, v :: vs, x, B, U, T, h, _, [], hu, hB => hu.elim
  | (m, c) :: ps, v :: vs, x, B, U, T, h, hnd, u :: us, ⟨hv, hu⟩, hB => by
    unfold argsOf at h
    cases hr : argsOf H ps vs with
    | none => rw [hr] at h; cases h
    | some q =>
      obtain ⟨xs, B', U', T'⟩ := q
      rw [hr] at h
      cases m with
      | imm =>
        simp only at h
        split at h
        case h_2 => cases h
        rename_i x1 ids hg
        simp only [Option.some.injEq, Prod.mk.injEq] at h
        obtain ⟨rfl, rfl, rfl, rfl⟩ := h
        obtain ⟨k1, k2, k3, k4⟩ := gathV_some hg
        obtain ⟨f, I, h1, h2, h3, h4, h5, h6⟩ := args_sound r hH hZ hr hnd hu (fun id hid => hB id (by simp [hid]))
        obtain ⟨u1, u2, e1, e2, e3⟩ := gath_shared (Z' := Zc) r hH hZ k2 (hv.cells k3) (fun id hid => hB id (by simp [hid]))
        have := rest_nil e1 e3
        subst this
        exact ⟨f, I, ⟨⟨_, shape_val k1 hv k3, e2⟩, h1⟩, h2, h3, h4, h5, fun hy _ _ _ hM => h6 hy hM⟩
      | fn f =>
        have h' : (match (generalizing := false) v with | .one (.fn f') => bif Nat.beq f f' then some (xs, B', U', T') else none | _ => none) = some ((x : (inK ps).den), B, U, T) := h
        clear h
        split at h'
        case h_2 => cases h'
        rename_i f'
        obtain ⟨hf, h⟩ := cond_some h'
        have hf := Nat.eq_of_beq_eq_true hf
        subst hf
        simp only [Option.some.injEq, Prod.mk.injEq] at h
        obtain ⟨rfl, rfl, rfl, rfl⟩ := h
        obtain ⟨ff, I, h1, h2, h3, h4, h5, h6⟩ := args_sound r hH hZ hr hnd hu hB
        exact ⟨ff, I, ⟨hv, h1⟩, h2, h3, h4, h5, fun hy _ _ _ hM => h6 hy hM⟩
      | own =>
        simp only at h
        split at h
        case h_2 => cases h
        rename_i x1 ids hg
        simp only [Option.some.injEq, Prod.mk.injEq] at h
        obtain ⟨rfl, rfl, rfl, rfl⟩ := h
        obtain ⟨k1, k2, k3, k4⟩ := gathV_some hg
        have hp0 : (U ++ (ids ++ T')).Perm (ids ++ (U ++ T')) := by
          rw [← List.append_assoc, ← List.append_assoc]
          exact List.Perm.append_right _ List.perm_append_comm
        have hnd2 := hp0.nodup_iff.1 hnd
        obtain ⟨f, I, h1, h2, h3, h4, h5, h6⟩ := args_sound r hH hZ hr (List.nodup_append.1 hnd2).2.1 hu hB
        obtain ⟨u1, u2, e1, e2, e3⟩ := gath_deep r hH k2 (hv.cells k3)
        have := rest_nil e1 e3
        subst this
        have hI : (ids ++ I).Nodup := (List.Perm.append_left ids h4).nodup_iff.2 hnd2
        have hsub : ∀ b ∈ ids.flatMap g.fp, ∃ id ∈ ids, b ∈ g.fp id := fun b hb => List.mem_flatMap.1 hb
        have hx : ∀ id ∈ I, ∀ b ∈ g.fp id, b ∉ ids.flatMap g.fp := by
          intro id hid b hb hm
          obtain ⟨id2, k5, k6⟩ := hsub b hm
          exact (List.nodup_append.1 hI).2.2 id2 k5 id hid (r.dj id2 id b k6 hb)
        refine ⟨ids.flatMap g.fp ++ f, ids ++ I, ⟨_, ids.flatMap g.fp, f, rfl, shape_val k1 hv k3, e2.frame (fun _ _ => rfl) hZ (fun _ _ => rfl), h1⟩, ?_, ?_, (List.Perm.append_left _ h4).trans hp0.symm, ?_, ?_⟩
        · refine List.nodup_append.2 ⟨r.nodup_fps (List.nodup_append.1 hI).1, h2, ?_⟩
          rintro b hb b' hb' rfl
          obtain ⟨id, k5, k6⟩ := h3 b hb'
          exact hx id k5 b k6 hb
        · intro b hb
          rcases List.mem_append.1 hb with hb | hb
          · obtain ⟨id, k5, k6⟩ := hsub b hb; exact ⟨id, by simp [k5], k6⟩
          · obtain ⟨id, k5, k6⟩ := h3 b hb; exact ⟨id, by simp [k5], k6⟩
        · intro id hid
          exact (List.mem_append.1 hid).elim (gath_same r hH k2 id) (h5 id)
        · intro y n hm n' hy Z' w' fm hM hz hzz hkeep
          obtain ⟨L, m1, m2, m3⟩ := h6 (y := y) hy hM hz hzz (fun id hid b hb hn => hkeep id (by simp [hid]) b hb (by rw [List.mem_append, not_or]; exact ⟨hx id hid b hb, hn⟩))
          have hUI : ∀ id ∈ U, id ∈ I := fun id hid => h4.mem_iff.2 (by simp [hid])
          exact ⟨L, m1, m2, UpdL.append (U1 := []) (p1 := []) (L1 := []) (n1 := n) r UpdL.nil m3 (Nat.le_refl _) m2 hI (by simp) hUI hsub h3⟩
      | «mut» =>
        simp only at h
        split at h
        case h_2 => cases h
        rename_i x1 ids hg
        simp only [Option.some.injEq, Prod.mk.injEq] at h
        obtain ⟨rfl, rfl, rfl, rfl⟩ := h
        obtain ⟨k1, k2, k3, k4⟩ := gathV_some hg
        rw [List.append_assoc] at hnd
        obtain ⟨f, I, h1, h2, h3, h4, h5, h6⟩ := args_sound r hH hZ hr (List.nodup_append.1 hnd).2.1 hu hB
        obtain ⟨u1, u2, fe, me⟩ := gath_mut r hH k2 (List.nodup_append.1 hnd).1 (hv.cells k3)
        have hue := rest_nil me.eq me.tl
        have hI : (ids ++ I).Nodup := (List.Perm.append_left ids h4).nodup_iff.2 hnd
        have hx : ∀ id ∈ I, ∀ b ∈ g.fp id, b ∉ fe := by
          intro id hid b hb hm
          obtain ⟨id2, k5, k6⟩ := me.sub b hm
          exact (List.nodup_append.1 hI).2.2 id2 k5 id hid (r.dj id2 id b k6 hb)
        have hx2 : ∀ id ∈ ids, ∀ b ∈ g.fp id, b ∉ f := by
          intro id hid b hb hm
          obtain ⟨id2, k5, k6⟩ := h3 b hm
          exact (List.nodup_append.1 hI).2.2 id hid id2 k5 (r.dj id id2 b hb k6)
        have hval : u = valV c u1 := by rw [← hue]; exact shape_val k1 hv k3
        refine ⟨fe ++ f, ids ++ I, ⟨u1, fe, f, rfl, hval, me.has.frame (fun _ _ => rfl) hZ (fun _ _ => rfl), h1⟩, ?_, ?_, ?_, ?_, ?_⟩
        · refine List.nodup_append.2 ⟨me.nd, h2, ?_⟩
          rintro b hb b' hb' rfl
          obtain ⟨id, k5, k6⟩ := me.sub b hb
          exact hx2 id k5 b k6 hb'
        · intro b hb
          rcases List.mem_append.1 hb with hb | hb
          · obtain ⟨id, k5, k6⟩ := me.sub b hb; exact ⟨id, by simp [k5], k6⟩
          · obtain ⟨id, k5, k6⟩ := h3 b hb; exact ⟨id, by simp [k5], k6⟩
        · rw [List.append_assoc]; exact List.Perm.append_left _ h4
        · intro id hid
          exact (List.mem_append.1 hid).elim (gath_same r hH k2 id) (h5 id)
        · intro y n hm n' hy Z' w' fm hM hz hzz hkeep
          obtain ⟨us', g1, g2, e1, e2, e3, e4, e5⟩ := hM
          have hus : u1 = us' := valV_inj (by rw [← hval]; exact e2) me.len e3
          subst hus
          simp only [mutOf] at hy
          split at hy
          case h_2 => cases hy
          rename_i h1 hup
          split at hy
          case h_2 => cases hy
          rename_i h2 n2 hmo
          simp only [Option.some.injEq, Prod.mk.injEq] at hy
          obtain ⟨rfl, rfl⟩ := hy
          obtain ⟨_, L1, l1, l2⟩ := me.upd hup e4 hz hzz (fun id hid b hb hn => hkeep id (by simp [hid]) b hb (by rw [List.mem_append, not_or]; exact ⟨hn, hx2 id hid b hb⟩))
          obtain ⟨L2, m1, m2, m3⟩ := h6 hmo e5 hz hzz (fun id hid b hb hn => hkeep id (by simp [hid]) b hb (by rw [List.mem_append, not_or]; exact ⟨hx id hid b hb, hn⟩))
          have hUI : ∀ id ∈ U', id ∈ I := fun id hid => h4.mem_iff.2 (by simp [hid])
          refine ⟨L1 ++ L2, by rw [l1, m1, List.map_append], m2, ?_⟩
          rw [e1]
          exact UpdL.append r (l2 n) m3 (Nat.le_refl _) m2 hI (fun _ h => h) hUI me.sub h3
      | ptr =>
        simp only at h
        split at h
        case h_2 => cases h
        rename_i id inc
        split at h
        case h_2 => cases h
        rename_i cs hcs
        split at h
        case h_2 => cases h
        rename_i x1 ids hg
        simp only [Option.some.injEq, Prod.mk.injEq] at h
        obtain ⟨rfl, rfl, rfl, rfl⟩ := h
        have hp0 : ((id :: U') ++ (ids ++ T')).Perm ((id :: ids) ++ (U' ++ T')) := by
          rw [List.cons_append, List.cons_append]
          refine List.Perm.cons _ ?_
          rw [← List.append_assoc, ← List.append_assoc]
          exact List.Perm.append_right _ List.perm_append_comm
        have hnd2 := hp0.nodup_iff.1 hnd
        obtain ⟨f, I, h1, h2, h3, h4, h5, h6⟩ := args_sound r hH hZ hr (List.nodup_append.1 hnd2).2.1 hu hB
        obtain ⟨k1, k2, k3⟩ := varAt_sound r hH hcs
        obtain ⟨b, hloc, hptr⟩ := hv.2 k2 cs k3
        have hrr := r.rt id
        unfold RR at hrr
        rw [k3] at hrr
        obtain ⟨b', us', ty, m1, m2, m3, m4⟩ := hrr
        rw [hloc] at m1
        cases m1
        obtain ⟨hga, _, _⟩ := gathAll_some hg
        obtain ⟨u1, u2, e1, e2, e3⟩ := gath_deep r hH hga m4
        have := rest_nil e1 e3
        subst this
        have hI : ((id :: ids) ++ I).Nodup := (List.Perm.append_left _ h4).nodup_iff.2 hnd2
        have hfe : (id :: ids).flatMap g.fp = b :: ids.flatMap g.fp := by rw [List.flatMap_cons, m2]; rfl
        have hsub : ∀ b' ∈ b :: ids.flatMap g.fp, ∃ i ∈ id :: ids, b' ∈ g.fp i := fun b' hb => by rw [← hfe] at hb; exact List.mem_flatMap.1 hb
        have hx : ∀ i ∈ I, ∀ b' ∈ g.fp i, b' ∉ b :: ids.flatMap g.fp := by
          intro i hid b' hb hm
          obtain ⟨id2, k5, k6⟩ := hsub b' hm
          exact (List.nodup_append.1 hI).2.2 id2 k5 i hid (r.dj id2 i b' k6 hb)
        refine ⟨(b :: ids.flatMap g.fp) ++ f, (id :: ids) ++ I, ⟨b, _, ty, ids.flatMap g.fp, f, rfl, hptr, m3, e2.frame (fun _ _ => rfl) hZ (fun _ _ => rfl), h1⟩, ?_, ?_, (List.Perm.append_left _ h4).trans hp0.symm, ?_, ?_⟩
        · refine List.nodup_append.2 ⟨by rw [← hfe]; exact r.nodup_fps (List.nodup_append.1 hI).1, h2, ?_⟩
          rintro b1 hb b2 hb' rfl
          obtain ⟨i, k5, k6⟩ := h3 b1 hb'
          exact hx i k5 b1 k6 hb
        · intro b1 hb
          rcases List.mem_append.1 hb with hb | hb
          · obtain ⟨i, k5, k6⟩ := hsub b1 hb; exact ⟨i, List.mem_append_left _ k5, k6⟩
          · obtain ⟨i, k5, k6⟩ := h3 b1 hb; exact ⟨i, List.mem_append_right _ k5, k6⟩
        · intro i hid
          rcases List.mem_append.1 hid with hid | hid
          · rcases List.mem_cons.1 hid with rfl | hid
            · exact k1
            · exact gath_same r hH hga i hid
          · exact h5 i hid
        · intro y n hm n' hy Z' w' fm hM hz hzz hkeep
          obtain ⟨b2, us2, ty2, g1, g2, c1, c2, c3, c4, c5⟩ := hM
          rw [hptr] at c2
          cases c2
          simp only [mutOf, hcs] at hy
          split at hy
          case h_2 => cases hy
          rename_i hm2 n2 hmo
          simp only [Option.some.injEq, Prod.mk.injEq] at hy
          obtain ⟨rfl, rfl⟩ := hy
          obtain ⟨L1, l1, l2, l3, l4, l5, l6, l7⟩ := expN_sound (H := H) n c4.toO
          obtain ⟨L2, n1, n2', n3⟩ := h6 hmo c5 hz hzz (fun i hid b' hb hn => hkeep i (List.mem_append_right _ hid) b' hb (by rw [List.mem_append, not_or]; exact ⟨hx i hid b' hb, hn⟩))
          have hUI : ∀ i ∈ U', i ∈ I := fun i hid => h4.mem_iff.2 (by simp [hid])
          have hup : UpdL σ g H n (expN H true c y.1 n).2.2 [id] (id :: ids) (b :: ids.flatMap g.fp) (b :: g1) (⟨id, ⟨inc, (H id).ver, .var (expN H true c y.1 n).1⟩, g.loc id, [b]⟩ :: L1) Z' w' := by
            refine ⟨?_, ?_, ?_, ?_, ?_⟩
            · intro q hq
              rcases List.mem_cons.1 hq with rfl | hq
              · refine .inr ⟨⟨k2, ?_, rfl, ?_, fun _ e xs hc => by rw [k3] at hc; cases hc⟩, by simp⟩
                · rw [k1]; exact Nat.le_refl _
                · rw [k3]; exact ⟨fun d e xs h => (by cases h), fun cs' h => ⟨cs, rfl⟩, fun k e xs h => (by cases h)⟩
              · exact .inl (l4 q hq)
            · intro i hi
              simp only [List.mem_singleton] at hi
              subst hi
              exact ⟨_, List.mem_cons_self, rfl⟩
            · intro q hq b' hb
              rcases List.mem_cons.1 hq with rfl | hq
              · simp only [List.mem_singleton] at hb
                subst hb
                exact .inl (by simp)
              · refine .inl (List.mem_cons_of_mem _ ?_)
                rw [← l2]
                exact List.mem_flatMap.2 ⟨q, hq, hb⟩
            · intro hn _
              rw [List.flatMap_cons, l2]
              exact hn
            · intro g' h' hzq hag q hq
              have hag2 : Agr g' h' L1 := fun q hq => hag q (List.mem_cons_of_mem _ hq)
              rcases List.mem_cons.1 hq with rfl | hq
              · exact ⟨b, us2, ty2, hloc, rfl, c3, l7 g' h' hag2⟩
              · exact l6 q hq g' h' hzq
          refine ⟨(⟨id, ⟨inc, (H id).ver, .var (expN H true c y.1 n).1⟩, g.loc id, [b]⟩ :: L1) ++ L2, ?_, Nat.le_trans l3 n2', ?_⟩
          · rw [l1, n1, List.map_append, List.map_cons]; rfl
          · rw [c1, show b :: (g1 ++ g2) = (b :: g1) ++ g2 from rfl]
            exact UpdL.append (U1 := [id]) r hup n3 l3 n2' hI (fun _ h => by simp at h; simp [h]) hUI hsub h3

      | pts =>
        simp only at h
        split at h
        case h_2 => cases h
        rename_i id inc
        split at h
        case h_2 => cases h
        rename_i cs hcs
        split at h
        case h_2 => cases h
        rename_i x1 hg
        simp only [Option.some.injEq, Prod.mk.injEq] at h
        obtain ⟨rfl, rfl, rfl, rfl⟩ := h
        have hp0 : ((id :: U') ++ T).Perm ([id] ++ (U' ++ T)) := List.Perm.refl _
        have hnd2 := hp0.nodup_iff.1 hnd
        obtain ⟨f, I, h1, h2, h3, h4, h5, h6⟩ := args_sound r hH hZ hr (List.nodup_append.1 hnd2).2.1 hu hB
        obtain ⟨k1, k2, k3⟩ := varAt_sound r hH hcs
        obtain ⟨b, hloc, hptr⟩ := hv.2 k2 cs k3
        have hrr := r.rt id
        unfold RR at hrr
        rw [k3] at hrr
        obtain ⟨b', us', ty, m1, m2, m3, m4⟩ := hrr
        rw [hloc] at m1
        cases m1
        obtain ⟨hga, _, _⟩ := gathAll_some hg
        obtain ⟨u1, u2, e1, e2, e3⟩ := gath_shared (Z' := Zc) r hH hZ hga m4 (by simp)
        have := rest_nil e1 e3
        subst this
        have hI : ([id] ++ I).Nodup := (List.Perm.append_left _ h4).nodup_iff.2 hnd2
        have hfe : [id].flatMap g.fp = [b] := by rw [List.flatMap_cons, m2]; rfl
        have hsub : ∀ b' ∈ [b], ∃ i ∈ [id], b' ∈ g.fp i := fun b' hb => by rw [← hfe] at hb; exact List.mem_flatMap.1 hb
        have hx : ∀ i ∈ I, ∀ b' ∈ g.fp i, b' ∉ [b] := by
          intro i hid b' hb hm
          obtain ⟨id2, k5, k6⟩ := hsub b' hm
          exact (List.nodup_append.1 hI).2.2 id2 k5 i hid (r.dj id2 i b' k6 hb)
        refine ⟨[b] ++ f, [id] ++ I, ⟨b, _, ty, f, rfl, hptr, m3, e2, h1⟩, ?_, ?_, (List.Perm.append_left _ h4).trans hp0.symm, ?_, ?_⟩
        · refine List.nodup_append.2 ⟨by rw [← hfe]; exact r.nodup_fps (List.nodup_append.1 hI).1, h2, ?_⟩
          rintro b1 hb b2 hb' rfl
          obtain ⟨i, k5, k6⟩ := h3 b1 hb'
          exact hx i k5 b1 k6 hb
        · intro b1 hb
          rcases List.mem_append.1 hb with hb | hb
          · obtain ⟨i, k5, k6⟩ := hsub b1 hb; exact ⟨i, List.mem_append_left _ k5, k6⟩
          · obtain ⟨i, k5, k6⟩ := h3 b1 hb; exact ⟨i, List.mem_append_right _ k5, k6⟩
        · intro i hid
          rcases List.mem_append.1 hid with hid | hid
          · rcases List.mem_cons.1 hid with rfl | hid
            · exact k1
            · simp at hid
          · exact h5 i hid
        · intro y n hm n' hy Z' w' fm hM hz hzz hkeep
          obtain ⟨b2, us2, ty2, g2, c1, c2, c3, c4, c5⟩ := hM
          rw [hptr] at c2
          cases c2
          simp only [mutOf, hcs] at hy
          split at hy
          case h_2 => cases hy
          rename_i hm2 n2 hmo
          simp only [Option.some.injEq, Prod.mk.injEq] at hy
          obtain ⟨rfl, rfl⟩ := hy
          obtain ⟨L2, n1, n2', n3⟩ := h6 hmo c5 hz hzz (fun i hid b' hb hn => hkeep i (List.mem_append_right _ hid) b' hb (by rw [List.mem_append, not_or]; exact ⟨hx i hid b' hb, hn⟩))
          have hUI : ∀ i ∈ U', i ∈ I := fun i hid => h4.mem_iff.2 (by simp [hid])
          have hup : UpdL σ g H n n [id] [id] [b] [b] [⟨id, ⟨inc, (H id).ver, .var (expS c y.1)⟩, g.loc id, [b]⟩] Z' w' := by
            refine ⟨?_, ?_, ?_, ?_, ?_⟩
            · intro q hq
              simp only [List.mem_singleton] at hq
              subst hq
              refine .inr ⟨⟨k2, ?_, rfl, ?_, fun _ e xs hc => by rw [k3] at hc; cases hc⟩, by simp⟩
              · rw [k1]; exact Nat.le_refl _
              · rw [k3]; exact ⟨fun d e xs h => (by cases h), fun cs' h => ⟨cs, rfl⟩, fun k e xs h => (by cases h)⟩
            · intro i hi
              simp only [List.mem_singleton] at hi
              subst hi
              exact ⟨_, List.mem_singleton.2 rfl, rfl⟩
            · intro q hq b' hb
              simp only [List.mem_singleton] at hq
              subst hq
              exact .inl hb
            · intro hn _
              exact hn
            · intro g' h' hzq hag q hq
              simp only [List.mem_singleton] at hq
              subst hq
              exact ⟨b, us2, ty2, hloc, rfl, c3, expS_sound (by rw [hzq]; exact c4)⟩
          refine ⟨[⟨id, ⟨inc, (H id).ver, .var (expS c y.1)⟩, g.loc id, [b]⟩] ++ L2, ?_, n2', ?_⟩
          · rw [n1, List.map_append]; rfl
          · rw [c1, show b :: g2 = [b] ++ g2 from rfl]
            exact UpdL.append (U1 := [id]) r hup n3 (Nat.le_refl _) n2' hI (fun _ h => h) hUI hsub h3

theorem act_call (henv : EnvOk P env) (r : Rl F σ a w g) (hH : HOk H σ.h o.dst) (hn : NwOk F o) {ff : Operand} {as : Array Operand} {ts : Array TypeId} (ho : o.op = .call { callee := .value ff, args := as, argTypes := ts })
    (h : act tt env k o (o.op.operands.toList.map σ.ev) H K = some y) : Goal P F σ a w g o K y := by
  unfold act at h
  rw [ho] at h
  simp only [Op.operands, Call.operands] at h
  obtain ⟨l, rfl⟩ : ∃ l : List Operand, as = l.toArray := ⟨as.toList, by simp⟩
  simp only [List.append_toArray, List.cons_append, List.nil_append, List.map_cons] at h
  have hf := ev_sound r ff
  have hargs : All2 (SVr g w σ.h) (l.map σ.ev) (l.map a.eval) := by
    clear h ho
    induction l with
    | nil => trivial
    | cons x l ih => exact ⟨ev_sound r x, ih⟩
  generalize hvs : l.map σ.ev = vs at h hargs
  split at h
  case h_2 => cases h
  rename_i f vs' heq
  simp only [List.cons.injEq] at heq
  obtain ⟨hfe, rfl⟩ := heq
  rw [hfe] at hf
  have hf : a.eval ff = .func (.func f) #[] #[] := hf
  split at h
  · cases h
  rename_i c hc
  obtain ⟨hcm, hcf⟩ := findC_some hc
  subst hcf
  have hs := henv c hcm
  split at h
  · cases h
  rename_i x B U T ha
  obtain ⟨hck, h⟩ := cond_some h
  rw [Bool.and_eq_true, Bool.and_eq_true] at hck
  obtain ⟨hnd, hdis, hlend⟩ := hck
  obtain ⟨yy, hrun, h⟩ := bnd_some h
  split at h
  case h_2 => cases h
  rename_i hm n hmo
  obtain ⟨hck2, hK⟩ := cond_some h
  rw [Bool.and_eq_true] at hck2
  obtain ⟨hn16, hndL⟩ := hck2
  have hn16 : n ≤ nid o.dst 16 := by simpa using hn16
  have hUT := nodB_iff.1 hnd
  have hBdis : ∀ id ∈ U ++ T, id ∉ B := disB_mem hdis
  -- the blocks that are lent
  let Zc : Nat → Prop := fun b => g.Z b ∨ ∃ id ∈ B, b ∈ g.fp id
  obtain ⟨fI, I, hI, hfnd, hfsub, hperm, hsame, hupd⟩ := args_sound (Zc := Zc) r hH (fun _ h => .inl h) ha hUT hargs (fun id hid b hb => .inr ⟨id, hid, hb⟩)
  have hInd : I.Nodup := hperm.nodup_iff.2 hUT
  have hmemI : ∀ id, id ∈ I ↔ id ∈ U ++ T := fun id => hperm.mem_iff
  have hfpZ : ∀ b ∈ fI, ¬ Zc b ∧ b < w.heap.size := by
    intro b hb
    obtain ⟨id, h1, h2⟩ := hfsub b hb
    refine ⟨?_, (r.rt id).lt b h2⟩
    rintro (hz | ⟨id2, h3, h4⟩)
    · exact (r.sp id b h2).1 hz
    · have := r.dj id id2 b h2 h4
      subst this
      exact hBdis id ((hmemI id).1 h1) h3
  have hZcl : ∀ b, Zc b → b < w.heap.size := by
    rintro b (hz | ⟨id, _, h2⟩)
    · exact r.zl b hz
    · exact (r.rt id).lt b h2
  have hcall := hs.run k x yy hrun Zc w (l.map a.eval) (fI) hI hfnd hfpZ hZcl
  refine ⟨_, hK, ?_⟩
  intro next Q hnext
  have hexec : (execOp a.eval o).run P w = .ok (.enter c.f (l.map a.eval).toArray) w := by
    unfold execOp
    rw [ho]
    simp [resolve, Deferred.ofValue, hf, invoke, hs.call]
  unfold Oper.wp
  rw [hexec, Oper.upon_enter]
  refine Calls.mono hcall ?_
  rintro e w' ⟨vs, rfl, Z1, fm, fr, hp⟩
  refine hnext _ _ ?_
  -- the two ways: nothing is lent, or nothing looks at what was lent
  obtain ⟨Z', hress, hmuts, hZZ, hZn, hnew, hZl⟩ : ∃ Z', RessR Z' w' c.g.rs yy.1 vs fr ∧ MutsR Z' w' c.g.ps yy.2 (l.map a.eval) fm ∧ (∀ b, g.Z b → Z' b) ∧ (∀ b, Z' b → g.Z b ∨ b ∈ fI ∨ w.heap.size ≤ b) ∧
      (∀ b ∈ fm ++ fr, ¬ Z' b ∧ (b ∈ fI ∨ w.heap.size ≤ b)) ∧ (∀ b, Z' b → b < w'.heap.size) := by
    rw [Bool.or_eq_true] at hlend
    rcases hlend with hl | hl
    · rw [Bool.and_eq_true] at hl
      refine ⟨g.Z, hp.ress.lend hl.1, hp.muts.lend hl.2, fun _ h => h, fun _ h => .inl h, fun b hb => ⟨fun hz => (hp.new b hb).1 (hp.zz b (.inl hz)), (hp.new b hb).2⟩, fun b hb => Nat.lt_of_lt_of_le (r.zl b hb) hp.sz⟩
    · have hB : B = [] := by
        cases B with
        | nil => rfl
        | cons _ _ => cases hl
      subst hB
      refine ⟨Z1, hp.ress, hp.muts, fun b h => hp.zz b (.inl h), fun b h => ?_, hp.new, hp.zl⟩
      rcases hp.zn b h with (h | ⟨id, h, _⟩) | h
      · exact .inl h
      · simp at h
      · exact .inr h
  obtain ⟨L1, l1, l2, l3, l4, l5, l6⟩ := resOf_sound (H := H) (nid o.dst 0) hress
  have hZw : ∀ b, g.Z b → w'.heap[b]? = w.heap[b]? := fun b hb => hp.fr b (r.zl b hb) (fun hf => by obtain ⟨id, _, h2⟩ := hfsub b hf; exact (r.sp id b h2).1 hb)
  obtain ⟨L2, m1, m3, mU⟩ := hupd hmo hmuts hZw hZZ (fun id hid b hb hn => hp.fr b ((r.rt id).lt b hb) hn)
  have m4 := mU.kind
  have m5 := mU.has
  have m6 := mU.rr
  have hnames : ∀ q : Claim, NwIn H (nid o.dst 0) (nid o.dst 16) q → IsNew F σ q := by
    intro q hq
    have hj : ∃ j, j < 16 ∧ q.id = nid o.dst j := by
      obtain ⟨_, h1, h2⟩ := hq
      cases hd : o.dst with
      | none =>
        rw [hd] at h1 h2
        simp only [nid] at h1 h2
        exact ⟨q.id - 2000000, by omega, by simp only [nid]; omega⟩
      | some d =>
        rw [hd] at h1 h2
        simp only [nid] at h1 h2
        exact ⟨q.id - (64 * d + 1000000), by omega, by simp only [nid]; omega⟩
    obtain ⟨j, h1, h2⟩ := hj
    refine ⟨?_, fun p hp => by rw [h2]; exact hn p hp j h1⟩
    have := hH.n j h1
    rw [← h2] at this
    rw [hq.1, this]
    omega
  have hids : ((L2 ++ L1).map (·.id)).Nodup := by
    have := nodB_iff.1 hndL
    rw [m1, l1, ← List.map_append, List.map_map] at this
    exact this
  have hfin : ∃ g', Rl F ⟨σ.s, setH σ.h ((L2 ++ L1).map Claim.pr ++ dead H T)⟩ a w' g' ∧ g'.Z = Z' ∧ Agr g' (setH σ.h ((L2 ++ L1).map Claim.pr ++ dead H T)) (L2 ++ L1) ∧ Ext g w σ.h g' w' (setH σ.h ((L2 ++ L1).map Claim.pr ++ dead H T)) := by
    have hin : ∀ b, b ∈ fI → ∃ id, (id ∈ T ∨ ∃ q ∈ L2 ++ L1, q.id = id) ∧ b ∈ g.fp id := by
      intro b hb
      obtain ⟨id, h1, h2⟩ := hfsub b hb
      refine ⟨id, ?_, h2⟩
      rcases List.mem_append.1 ((hmemI id).1 h1) with h | h
      · obtain ⟨q, h3, h4⟩ := m5 id h
        exact .inr ⟨q, by simp [h3], h4⟩
      · exact .inl h
    refine Rl.many r (fun id hid => hsame id ((hmemI id).2 (by simp [hid]))) hids ?_ hZZ ?_ hZl hp.os hp.tp hp.ou hp.sz ?_ ?_ ?_ ?_
    · intro q hq
      rcases List.mem_append.1 hq with hq | hq
      · rcases m4 q hq with h | ⟨h1, h2⟩
        · exact .inl (hnames q (h.mono l3 hn16))
        · refine .inr ⟨h1, fun hT => ?_⟩
          exact (List.nodup_append.1 hUT).2.2 q.id h2 q.id hT rfl
      · exact .inl (hnames q ((l4 q hq).mono (Nat.le_refl _) (Nat.le_trans m3 hn16)))
    · intro b hb
      rcases hZn b hb with h | h | h
      · exact .inl h
      · exact .inr (.inl (hin b h))
      · exact .inr (.inr h)
    · intro b hb hne
      refine hp.fr b hb (fun hbI => ?_)
      obtain ⟨id, h1, h2⟩ := hin b hbI
      exact hne id h1 h2
    · have hnd3 := List.nodup_append.1 hp.nd
      rw [List.flatMap_append, l2]
      refine List.nodup_append.2 ⟨mU.nd hnd3.1 (fun b hb ⟨id, h1, h2⟩ => ?_), hnd3.2.1, ?_⟩
      · rcases (hnew b (by simp [hb])).2 with h | h
        · exact h
        · have := (r.rt id).lt b h2; omega
      · rintro b h1 b' h2 rfl
        obtain ⟨q, h3, h4⟩ := List.mem_flatMap.1 h1
        rcases mU.mem q h3 b h4 with h5 | ⟨h5, _, h6⟩
        · exact hnd3.2.2 b h5 b h2 rfl
        · rcases (hnew b (by simp [h2])).2 with h | h
          · exact h6 h
          · have := (r.rt q.id).lt b h5; omega
    · intro q hq b hb
      have hcase : b ∈ fm ++ fr ∨ (b ∈ g.fp q.id ∧ b ∉ fI) := by
        rcases List.mem_append.1 hq with hq | hq
        · rcases mU.mem q hq b hb with h | ⟨h1, _, h2⟩
          · exact .inl (by simp [h])
          · exact .inr ⟨h1, h2⟩
        · refine .inl (List.mem_append_right _ ?_)
          rw [← l2]
          exact List.mem_flatMap.2 ⟨q, hq, hb⟩
      rcases hcase with hb' | ⟨h3, h4⟩
      · obtain ⟨h1, h2⟩ := hnew b hb'
        refine ⟨h1, ?_⟩
        rcases h2 with h2 | h2
        · exact .inr (hin b h2)
        · exact .inl h2
      · refine ⟨fun hz => ?_, .inr ⟨q.id, .inr ⟨q, hq, rfl⟩, h3⟩⟩
        rcases hZn b hz with h | h | h
        · exact (r.sp q.id b h3).1 h
        · exact h4 h
        · have := (r.rt q.id).lt b h3; omega
    · intro h' g' hz hag q hq
      exact (List.mem_append.1 hq).elim (m6 g' h' hz hag.left q) (fun hq => l5 q hq g' h' hz)
  obtain ⟨g', r', hZ', hag, x'⟩ := hfin
  have hhs : hm ++ (resOf H c.g.rs yy.1 (nid o.dst 0)).2.1 ++ dead H T = (L2 ++ L1).map Claim.pr ++ dead H T := by rw [m1, l1, List.map_append]
  refine ⟨g', ?_, ?_⟩
  · show Rl F ⟨σ.s, setH σ.h (hm ++ (resOf H c.g.rs yy.1 (nid o.dst 0)).2.1 ++ dead H T)⟩ a w' g'
    rw [hhs]
    exact r'
  · show SVr g' w' (setH σ.h (hm ++ (resOf H c.g.rs yy.1 (nid o.dst 0)).2.1 ++ dead H T)) (retSV (resOf H c.g.rs yy.1 (nid o.dst 0)).1) (retVal vs)
    rw [hhs]
    exact retSV_sound (l6 g' _ hZ' hag.right)
end
end VM
