/- Slices out of parts. -/
import Derived.Test.YtljofbhokcdklaaVMn
import Derived.Great.BuildSlice
set_option linter.unusedVariables false
set_option linter.unusedSimpArgs false
namespace VM
open Go

theorem memB_iff : ∀ {m : List Nat} {i : Nat}, memB m i = true ↔ i ∈ m
  | [], i => by simp [memB]
  | b :: m, i => by
    simp only [memB, List.mem_cons]
    by_cases e : i = b
    · subst e; simp
    · have : Nat.beq b i = false := by
        cases h : Nat.beq b i with
        | false => rfl
        | true => exact absurd (Nat.eq_of_beq_eq_true h).symm e
      rw [this]
      simp [e, memB_iff (m := m) (i := i)]

theorem nodB_iff : ∀ {m : List Nat}, nodB m = true ↔ m.Nodup
  | [] => by simp [nodB]
  | b :: m => by
    simp only [nodB, List.nodup_cons]
    cases h : memB m b with
    | true =>
      have := memB_iff.1 h
      simp [this]
    | false =>
      have : b ∉ m := fun hb => by rw [memB_iff.2 hb] at h; cases h
      simp [this, nodB_iff (m := m)]

section
variable {P : Program} {F : Fx} {σ : St} {a : Act} {w : World} {g : Gh} {R : Type} {tt : List (Nat × TD)} {env : List Ct} {k : Nat} {o : Oper} {H : Nat → RE} {K : Upd → Option R} {y : R}

theorem Rl.nodup_fps (r : Rl F σ a w g) : ∀ {ids : List Nat}, ids.Nodup → (ids.flatMap g.fp).Nodup
  | [], _ => by simp
  | id :: ids, h => by
    rw [List.nodup_cons] at h
    rw [List.flatMap_cons]
    refine List.nodup_append.2 ⟨r.nd id, r.nodup_fps h.2, ?_⟩
    rintro b h1 b' h2 rfl
    obtain ⟨id', h3, h4⟩ := List.mem_flatMap.1 h2
    rw [r.dj id id' b h1 h4] at h
    exact h.1 h3

theorem gathN_shared (r : Rl F σ a w g) (hH : HOk H σ.h o.dst) {m : Tk} {Z' : Nat → Prop} (hZ : ∀ b, g.Z b → Z' b) {e : CK} :
    ∀ {n : Nat} {cs : List CV} {xs : List e.den} {ids : List Nat}, gathN H m e n cs = some (xs, ids) → ∀ {us : List Value}, All2 (CVr g w σ.h) cs us → (∀ id ∈ ids, ∀ b ∈ g.fp id, Z' b) → Cat (Has Z' w false e) xs us []
  | 0, [], xs, ids, h, us, hu, hf => by
    simp only [gathN, Option.some.injEq, Prod.mk.injEq] at h
    obtain ⟨rfl, rfl⟩ := h
    match us, hu with
    | [], _ => exact ⟨rfl, rfl⟩
  | 0, _ :: _, xs, ids, h, us, hu, hf => by simp [gathN] at h
  | n + 1, cs, xs, ids, h, us, hu, hf => by
    simp only [gathN] at h
    split at h
    · rename_i x i1 r1 h1
      split at h
      · rename_i ys i2 h2
        simp only [Option.some.injEq, Prod.mk.injEq] at h
        obtain ⟨rfl, rfl⟩ := h
        obtain ⟨u1, u2, rfl, k1, k2⟩ := gath_shared r hH hZ h1 hu (fun id hid => hf id (by simp [hid]))
        exact ⟨u1, u2, [], [], rfl, rfl, k1, gathN_shared r hH hZ h2 k2 (fun id hid => hf id (by simp [hid]))⟩
      · cases h
    · cases h

theorem gathN_deep (r : Rl F σ a w g) (hH : HOk H σ.h o.dst) {e : CK} :
    ∀ {n : Nat} {cs : List CV} {xs : List e.den} {ids : List Nat}, gathN H .deep e n cs = some (xs, ids) → ∀ {us : List Value}, All2 (CVr g w σ.h) cs us → Cat (Has g.Z w true e) xs us (ids.flatMap g.fp)
  | 0, [], xs, ids, h, us, hu => by
    simp only [gathN, Option.some.injEq, Prod.mk.injEq] at h
    obtain ⟨rfl, rfl⟩ := h
    match us, hu with
    | [], _ => exact ⟨rfl, rfl⟩
  | 0, _ :: _, xs, ids, h, us, hu => by simp [gathN] at h
  | n + 1, cs, xs, ids, h, us, hu => by
    simp only [gathN] at h
    split at h
    · rename_i x i1 r1 h1
      split at h
      · rename_i ys i2 h2
        simp only [Option.some.injEq, Prod.mk.injEq] at h
        obtain ⟨rfl, rfl⟩ := h
        obtain ⟨u1, u2, rfl, k1, k2⟩ := gath_deep r hH h1 hu
        exact ⟨u1, u2, _, _, rfl, by simp, k1, gathN_deep r hH h2 k2⟩
      · cases h
    · cases h

theorem slOf_same (r : Rl F σ a w g) (hH : HOk H σ.h o.dst) {m : Tk} {v : CV} {e : CK} {xs : List e.den} {ids : List Nat} (h : slOf H m v e = some (xs, ids)) : ∀ id ∈ ids, H id = σ.h id := by
  cases v with
  | nil =>
    simp only [slOf, Option.some.injEq, Prod.mk.injEq] at h
    obtain ⟨_, rfl⟩ := h
    simp
  | sl e' ys =>
    simp only [slOf] at h
    cases m <;> simp only at h <;> try cases h
    all_goals
      split at h
      · simp only [Option.some.injEq, Prod.mk.injEq] at h
        obtain ⟨_, rfl⟩ := h
        simp
      · cases h
  | row id inc ver p =>
    simp only [slOf] at h
    split at h
    · rename_i R hR
      obtain ⟨k1, _⟩ := rowAt_sound r hH hR
      split at h
      · have hids : ids = [id] := by
          cases m <;> simp only at h
          · cases p with
            | nil => simp only at h; cases hb : (R.d || e.flat) <;> rw [hb] at h <;> simp at h; exact h.2.symm
            | cons => simp at h
          · cases p with
            | nil => simp at h; exact h.2.symm
            | cons => simp at h
          · simp at h; exact h.2.symm
          · cases hb : (R.d || e.flat) <;> rw [hb] at h <;> simp at h; exact h.2.symm
        subst hids
        simpa using k1
      · cases h
    · cases h
  | rsub id inc ver p lo hi =>
    simp only [slOf] at h
    cases m <;> simp only at h <;> try cases h
    split at h
    · rename_i R hR
      obtain ⟨k1, _⟩ := rowAt_sound r hH hR
      split at h
      · simp only [Option.some.injEq, Prod.mk.injEq] at h
        obtain ⟨_, rfl⟩ := h
        simpa using k1
      · cases h
    · cases h
  | undef | int | bool | str | rp | fn | vptr | ptr | map => simp [slOf] at h

theorem gath_same (r : Rl F σ a w g) (hH : HOk H σ.h o.dst) {m : Tk} : ∀ {c : CK} {cs : List CV} {x : c.den} {ids : List Nat} {rest : List CV}, gath H m c cs = some (x, ids, rest) → ∀ id ∈ ids, H id = σ.h id
  | .int k, cs, x, ids, rest, h => by
    cases cs with
    | nil => simp [gath] at h
    | cons v r' =>
      cases v <;> simp only [gath] at h <;> try cases h
      split at h <;> try cases h
      simp
  | .bool, cs, x, ids, rest, h => by
    cases cs with
    | nil => simp [gath] at h
    | cons v r' =>
      cases v <;> simp only [gath] at h <;> try cases h
      simp
  | .str, cs, x, ids, rest, h => by
    cases cs with
    | nil => simp [gath] at h
    | cons v r' =>
      cases v <;> simp only [gath] at h <;> try cases h
      simp
  | .unit, cs, x, ids, rest, h => by
    cases cs <;> (simp only [gath, Option.some.injEq, Prod.mk.injEq] at h; obtain ⟨_, rfl, rfl⟩ := h; simp)
  | .sl e, cs, x, ids, rest, h => by
    cases cs with
    | nil => simp [gath] at h
    | cons v r' =>
    have h' : (match slOf H m v e with | some (xs, ids) => some (xs, ids, r') | none => none) = some (x, ids, rest) := h
    clear h
    cases hs : slOf H m v e with
    | none => rw [hs] at h'; cases h'
    | some q =>
      rw [hs] at h'
      obtain ⟨xs, ids'⟩ := q
      simp only [Option.some.injEq, Prod.mk.injEq] at h'
      obtain ⟨rfl, rfl, rfl⟩ := h'
      exact slOf_same r hH hs
  | .pair p q, cs, x, ids, rest, h => by
    have h' : (match gath H m p cs with
      | some (x, i1, r1) => match gath H m q r1 with
        | some (y, i2, r2) => some ((x, y), i1 ++ i2, r2)
        | none => none
      | none => none) = some (x, ids, rest) := by
        cases cs <;> exact h
    clear h
    split at h' <;> try cases h'
    rename_i y i1 r1 hp
    split at h' <;> try cases h'
    rename_i z i2 r2 hq
    intro id hid
    exact (List.mem_append.1 hid).elim (gath_same r hH hp id) (gath_same r hH hq id)

theorem gathN_same (r : Rl F σ a w g) (hH : HOk H σ.h o.dst) {m : Tk} {e : CK} : ∀ {n : Nat} {cs : List CV} {xs : List e.den} {ids : List Nat}, gathN H m e n cs = some (xs, ids) → ∀ id ∈ ids, H id = σ.h id
  | 0, [], xs, ids, h => by
    simp only [gathN, Option.some.injEq, Prod.mk.injEq] at h
    obtain ⟨rfl, rfl⟩ := h
    simp
  | 0, _ :: _, xs, ids, h => by simp [gathN] at h
  | n + 1, cs, xs, ids, h => by
    simp only [gathN] at h
    split at h
    · rename_i x i1 r1 h1
      split at h
      · rename_i ys i2 h2
        simp only [Option.some.injEq, Prod.mk.injEq] at h
        obtain ⟨rfl, rfl⟩ := h
        intro id hid
        exact (List.mem_append.1 hid).elim (gath_same r hH h1 id) (gathN_same r hH h2 id)
      · cases h
    · cases h

theorem gathN_len {m : Tk} {e : CK} : ∀ {n : Nat} {cs : List CV} {xs : List e.den} {ids : List Nat}, gathN H m e n cs = some (xs, ids) → xs.length = n
  | 0, [], xs, ids, h => by
    simp only [gathN, Option.some.injEq, Prod.mk.injEq] at h
    obtain ⟨rfl, rfl⟩ := h
    rfl
  | 0, _ :: _, xs, ids, h => by simp [gathN] at h
  | n + 1, cs, xs, ids, h => by
    simp only [gathN] at h
    split at h
    · split at h
      · rename_i ys i2 h2
        simp only [Option.some.injEq, Prod.mk.injEq] at h
        obtain ⟨rfl, rfl⟩ := h
        simp [gathN_len h2]
      · cases h
    · cases h

theorem zeros_vals (g : Gh) (w : World) (h : Nat → RE) (e : CK) : ∀ n, All2 (CVr g w h) (List.replicate n (expZ e)).flatten (List.replicate n e.zero).flatten
  | 0 => trivial
  | n + 1 => (zero_vals g w h e).append (zeros_vals g w h e n)

theorem act_buildSlice (htt : TTok P tt) (r : Rl F σ a w g) (hH : HOk H σ.h o.dst) (hn : NwOk F o) {t : TypeId} {n : Nat} {ps : Array (Nat × Operand)} (ho : o.op = .buildSlice t n ps) (h : act tt env k o (o.op.operands.toList.map σ.ev) H K = some y) : Goal P F σ a w g o K y := by
  unfold act at h
  rw [ho] at h
  simp only [Op.operands] at h
  split at h
  case h_2 => cases h
  rename_i e he
  obtain ⟨hsmall, h⟩ := cond_some h
  have hsmall : n * e.size ≤ 16777216 := by simpa using hsmall
  split at h
  case h_2 => cases h
  rename_i rows hb
  obtain ⟨b, fs, hl⟩ := elemT_some he
  obtain ⟨et, i, zz, h1, h2, h3, h4, h5, h6, h7, h8⟩ := elem_facts htt hl
  have hps := parts_sound r ps.toList
  have hlz : (List.replicate n e.zero).flatten.length = n * e.size := by rw [List.length_flatten]; simp [h8]
  obtain ⟨us, hf, hus⟩ := buildC_sound (place := fun i => some (i * e.size, e.size)) (n := n * e.size) (fun j off d hj => by
      rw [List.getElem?_map] at hj
      obtain ⟨j', hj1, hj2⟩ := Option.map_eq_some_iff.1 hj
      have hlt : j < n := by have := (List.getElem?_eq_some_iff.1 hj1).1; simpa using this
      rw [List.getElem?_range hlt] at hj1
      cases hj1
      cases hj2
      refine ⟨rfl, ?_⟩
      have := Nat.mul_le_mul_right e.size (show j + 1 ≤ n from hlt)
      rw [Nat.add_mul] at this
      omega) hps (zeros_vals g w σ.h e n) hlz hb
  have run : (execOp a.eval o).run P w = .ok (.value (.slice (some ⟨w.heap.size, 0, none⟩) n n)) (w.alloc (.cells us.toArray et)) := by
    have hmade : (madeCells e.zero.toArray (n * e.size)) = (List.replicate n e.zero).flatten.toArray := by rw [← made_list h8 n]
    unfold execOp
    rw [ho]
    have hf' : Instr.fill (fun i => some (i * e.size, e.size)) (List.replicate n e.zero).flatten.toArray (ps.map fun x => (x.1, a.eval x.2)).toList = some us.toArray := by
      rw [Array.toList_map]; exact hf
    have hbs : (Instr.buildSlice t n (ps.map fun x => (x.1, a.eval x.2))).run P w = .ok (.slice (some ⟨w.heap.size, 0, none⟩) n n) (w.alloc (.cells us.toArray et)) := by
      by_cases h0 : n * e.size = 0
      · unfold Instr.buildSlice
        have hn0 : n = 0 := by
          rcases Nat.mul_eq_zero.1 h0 with h | h
          · exact h
          · omega
        subst hn0
        rw [Array.toList_map] at hf'
        simp at hf'
        simp [run_underlying h1, Go.sizeOf, typeInfo, h3, h5, hf', newRow, Array.range_zero']
      · refine run_buildSlice w t et n _ _ i zz h1 h3 h6 (by rw [h5]; omega) (by rw [h5]; exact h0) ?_
        rw [h5, h7]
        have hm2 : (Array.range (n * e.size)).map (fun x => e.zero.toArray[x % e.zero.toArray.size]!) = (List.replicate n e.zero).flatten.toArray := hmade
        rw [hm2]
        exact hf'
    simp only [Sem.run_bind, hbs, Result.andThen_ok, Sem.run_pure]
  have fin : ∀ (d : Bool) (xs : List e.den) (ids : List Nat) (Z' : Nat → Prop) (ff : List Nat), xs.length = n → (∀ id ∈ ids, H id = σ.h id) → (∀ b, g.Z b → Z' b) → (∀ b, Z' b → g.Z b ∨ ∃ id ∈ ids, b ∈ g.fp id) → Cat (Has Z' w d e) xs us ff →
      (∀ b ∈ ff, ¬ Z' b ∧ ∃ id ∈ ids, b ∈ g.fp id) → ff.Nodup → K ⟨.one (.row (nid o.dst 0) ((H (nid o.dst 0)).inc + 1) 0 []), (nid o.dst 0, ⟨(H (nid o.dst 0)).inc + 1, 0, .row d e xs⟩) :: dead H ids⟩ = some y → Goal P F σ a w g o K y := by
    intro d xs ids Z' ff hlen hsame hZZ hZT hcat hff hnd hK
    have hlt : ∀ b, b ∈ ff → b < w.heap.size := fun b hb => by
      obtain ⟨_, id, _, h⟩ := hff b hb
      exact (r.rt id).lt b h
    refine goal_newRow (Z' := Z') (T := ids) (fp := w.heap.size :: ff) (w' := w.alloc (.cells us.toArray et)) r hH hn hsame hZZ hZT rfl rfl rfl (by simp) (fun b hb _ => heap_alloc_old w _ hb) ?_ ?_ ?_ hK run
    · exact List.nodup_cons.2 ⟨fun hb => by have := hlt _ hb; omega, hnd⟩
    · intro b hb
      rcases List.mem_cons.1 hb with rfl | hb
      · refine ⟨fun hz => ?_, .inl (Nat.le_refl _)⟩
        rcases hZT _ hz with h | ⟨id, _, h⟩
        · have := r.zl _ h; omega
        · have := (r.rt id).lt _ h; omega
      · exact ⟨(hff b hb).1, .inr (hff b hb).2⟩
    · refine ⟨some ⟨w.heap.size, 0, none⟩, n, by rw [hlen], by omega, .inr ⟨w.heap.size, 0, us, ff, rfl, CellsAt.new w _ _, ?_, rfl, OwnB.new w _ _ ?_⟩⟩
      · refine hcat.mono _ (fun x _ u f hf hxx => Has.frame (w := w) (w' := w.alloc (.cells us.toArray et)) (fun b hb => ?_) (fun _ h => h) hxx (fun b' hb' => ?_))
        · refine heap_alloc_old w _ ?_
          rcases hZT b hb with h | ⟨id, _, h⟩
          · exact r.zl b h
          · exact (r.rt id).lt b h
        · exact heap_alloc_old w _ (hlt b' (hf b' hb'))
      · rw [Nat.zero_add, Cat.len (fun _ _ _ h => Has.len h) hcat, hlen]
        exact Nat.le_refl _
  split at h
  · rename_i xs ids hg
    obtain ⟨hnd, hK⟩ := cond_some h
    refine fin true xs ids g.Z (ids.flatMap g.fp) (gathN_len hg) (gathN_same r hH hg) (fun _ h => h) (fun _ h => .inl h) (gathN_deep r hH hg hus) (fun b hb => ?_) (r.nodup_fps (nodB_iff.1 hnd)) hK
    obtain ⟨id, h1, h2⟩ := List.mem_flatMap.1 hb
    exact ⟨fun hz => (r.sp id b h2).1 hz, id, h1, h2⟩
  · split at h
    · rename_i xs ids hg
      obtain ⟨hnd, hK⟩ := cond_some h
      let Z' : Nat → Prop := fun b => g.Z b ∨ ∃ id ∈ ids, b ∈ g.fp id
      exact fin false xs ids Z' [] (gathN_len hg) (gathN_same r hH hg) (fun _ h => .inl h) (fun _ h => h) (gathN_shared r hH (fun _ h => .inl h) hg hus (fun id h b hb => .inr ⟨id, h, hb⟩)) (by simp) (by simp) hK
    · cases h
end
end VM
