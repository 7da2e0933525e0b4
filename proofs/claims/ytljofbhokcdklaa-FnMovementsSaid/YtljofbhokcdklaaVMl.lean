/- New rows. -/
import Derived.Test.YtljofbhokcdklaaVMk
set_option linter.unusedVariables false
set_option linter.unusedSimpArgs false
namespace VM
open Go

theorem made_list {e : CK} (hz : e.zero.length = e.size) (n : Nat) : (madeCells e.zero.toArray (n * e.size)).toList = (List.replicate n e.zero).flatten := by
  unfold madeCells
  rw [Array.toList_map, Array.toList_range]
  have hz' : e.zero.toArray.size = e.size := by simp [hz]
  rw [hz']
  induction n with
  | zero => simp
  | succ n ih =>
    rw [show (n + 1) * e.size = e.size + n * e.size by rw [Nat.add_mul]; omega, List.range_add, List.map_append, List.replicate_succ, List.flatten_cons, ← ih, List.map_map]
    congr 1
    · apply List.ext_getElem?
      intro k
      by_cases hk : k < e.size
      · rw [List.getElem?_map, List.getElem?_range hk]
        have : k < e.zero.length := by omega
        simp [Nat.mod_eq_of_lt hk, this]
      · rw [List.getElem?_eq_none (by simp; omega), List.getElem?_eq_none (by omega)]
    · apply List.map_congr_left
      intro k _
      simp

theorem Cat.replicate {α : Type} {P : α → List Value → List Nat → Prop} {x : α} {us : List Value} (h : P x us []) : ∀ n, Cat P (List.replicate n x) (List.replicate n us).flatten []
  | 0 => ⟨rfl, rfl⟩
  | n + 1 => ⟨us, _, [], [], rfl, rfl, h, Cat.replicate h n⟩

theorem CellsAt.new (w : World) (us : List Value) (t : TypeId) : CellsAt (w.alloc (.cells us.toArray t)) w.heap.size 0 us := fun j u hu => by
  rw [Nat.zero_add, World.cell?_alloc_new]
  simpa using hu
theorem OwnB.new (w : World) (us : List Value) (t : TypeId) {n : Nat} (h : n ≤ us.length) : OwnB (w.alloc (.cells us.toArray t)) w.heap.size n := ⟨us.toArray, t, heap_alloc_new w _, by simpa using h⟩

/-- The zero value again, cell by cell. -/
theorem TypeIs.zero_cells {P : Program} {t : TypeId} {c : CK} (h : TypeIs P t c) : ∃ i, P.info? t = some i ∧ i.size = c.size ∧ ∃ z, i.zero = some z ∧ z.cells = c.zero.toArray := by
  obtain ⟨i, d, h1, h2, h3, h4, h5⟩ := h.ex
  exact ⟨i, h1, h3, _, h4, cells_zeroV c⟩

section
variable {P : Program} {F : Fx} {σ : St} {a : Act} {w : World} {g : Gh} {R : Type} {tt : List (Nat × TD)} {env : List Ct} {k : Nat} {o : Oper} {H : Nat → RE} {K : Upd → Option R} {y : R}

theorem ebytes_some {t : TypeId} {b : Nat} {e : CK} (h : ebytes tt t = some b) (he : elemT tt t = some e) : ∃ fs, look tt t = some (.val (.sl e) b fs) := by
  obtain ⟨b', fs, hl⟩ := elemT_some he
  unfold ebytes at h
  rw [hl] at h
  simp only [Option.some.injEq] at h
  subst h
  exact ⟨fs, hl⟩

/-- What an element type says. -/
theorem elem_facts (htt : TTok P tt) {t : TypeId} {b : Nat} {e : CK} {fs : List (Nat × CK)} (h : look tt t = some (.val (.sl e) b fs)) :
    ∃ et i z, P.underlying t = some (.slice et) ∧ 0 < e.size ∧ P.info? et = some i ∧ i.bytes = b ∧ i.size = e.size ∧ i.zero = some z ∧ z.cells = e.zero.toArray ∧ e.zero.length = e.size := by
  obtain ⟨et, h1, h2, h3, i, h4, h5⟩ := htt.sl t e b fs h
  obtain ⟨i', m1, m2, z, m3, m4⟩ := h2.zero_cells
  rw [h4] at m1
  cases m1
  exact ⟨et, i, z, h1, h3, h4, h5, m2, m3, m4, (Has.zero (fun _ => False) default false e).len⟩

/-- A new row, owned; its elements' cells 'us'; the roots 'T' go into it. -/
theorem goal_newRow (r : Rl F σ a w g) (hH : HOk H σ.h o.dst) (hn : NwOk F o) {T : List Nat} (hT : ∀ id ∈ T, H id = σ.h id) {d : Bool} {e : CK} {xs : List e.den} {v : Value} {fp : List Nat} {w' : World} {Z' : Nat → Prop}
    (hZZ : ∀ b, g.Z b → Z' b) (hZT : ∀ b, Z' b → g.Z b ∨ ∃ id ∈ T, b ∈ g.fp id)
    (os : w'.os = w.os) (tp : w'.tape = w.tape) (ou : w'.output = w.output) (sz : w.heap.size ≤ w'.heap.size)
    (fr : ∀ b, b < w.heap.size → (∀ id ∈ T, b ∉ g.fp id) → w'.heap[b]? = w.heap[b]?)
    (hfp : fp.Nodup) (hnew : ∀ b ∈ fp, ¬ Z' b ∧ (w.heap.size ≤ b ∨ ∃ id ∈ T, b ∈ g.fp id))
    (hrow : Row Z' w' d e xs v fp)
    (hK : K ⟨.one (.row (nid o.dst 0) ((H (nid o.dst 0)).inc + 1) 0 []), (nid o.dst 0, ⟨(H (nid o.dst 0)).inc + 1, 0, .row d e xs⟩) :: dead H T⟩ = some y)
    (h : (execOp a.eval o).run P w = .ok (.value v) w') : Goal P F σ a w g o K y := by
  have hm := hH.n 0 (by omega)
  obtain ⟨g', r', hz, hl, hf, _, x⟩ := Rl.make (c := .row d e xs) r hm (fun p hp => hn p hp 0 (by omega)) (T := T) hT (v := v) (fp := fp) (w' := w') (Z' := Z') hZZ hZT os tp ou sz fr hfp hnew
    (fun h' g' hz x => by
      show Row g'.Z w' d e xs v fp
      rw [hz]
      exact hrow)
  refine ⟨_, hK, OpPost.value h ⟨g', r', ?_⟩⟩
  have hv : v.oneCell' = true := by
    obtain ⟨A, cap, hv, _⟩ := hrow
    rw [hv]
    rfl
  have hh : setH σ.h ((nid o.dst 0, ⟨(H (nid o.dst 0)).inc + 1, 0, .row d e xs⟩) :: dead H T) (nid o.dst 0) = ⟨(H (nid o.dst 0)).inc + 1, 0, .row d e xs⟩ := by rw [setH_cons, if_pos rfl]
  refine ⟨⟨?_, ?_, hv⟩, fun d' e' xs' hc _ => ?_⟩
  · rw [hh]; exact Nat.le_refl _
  · intro _; exact Nat.zero_le _
  · show v = g'.loc (nid o.dst 0)
    rw [hl]

theorem act_makeSlice (htt : TTok P tt) (r : Rl F σ a w g) (hH : HOk H σ.h o.dst) (hn : NwOk F o) {t : TypeId} {x z : Operand} (ho : o.op = .makeSlice t x z) (h : act tt env k o (o.op.operands.toList.map σ.ev) H K = some y) : Goal P F σ a w g o K y := by
  unfold act at h
  rw [ho] at h
  simp only [Op.operands] at h
  split at h
  · rename_i n n' hv
    simp at hv
    have hx : a.eval x = .int .i64 n := by have := ev_sound r x; rw [hv.1] at this; exact this
    have hz : a.eval z = .int .i64 n' := by have := ev_sound r z; rw [hv.2] at this; exact this
    split at h
    · rename_i e b he hb
      obtain ⟨fs, hl⟩ := ebytes_some hb he
      obtain ⟨et, i, zz, h1, h2, h3, h4, h5, h6, h7, h8⟩ := elem_facts htt hl
      obtain ⟨hc, hk⟩ := grd_some h
      clear h
      simp only [Bool.and_eq_true, decide_eq_true_eq, fits, Nat.blt_eq] at hc
      obtain ⟨⟨rfl, h0⟩, hbb, hb0⟩ := hc
      obtain ⟨m, rfl⟩ := Int.eq_ofNat_of_zero_le h0
      simp only [Int.toNat_natCast] at hbb hk
      have hmb : m ≤ m * b := Nat.le_mul_of_pos_right m hb0
      have run := run_make (P := P) w t et i zz h1 h3 h6 .i64 .i64 (m : Int) (m : Int) (by omega) (Int.le_refl _) (by
        rw [h4]
        have : ((m * b : Nat) : Int) ≤ 140737488355328 := by omega
        rw [Int.natCast_mul] at this
        rw [Int.mul_comm]
        omega) (by omega)
      simp only [Int.toNat_natCast, h5, h7] at run
      have hlist := made_list h8 m
      have harr : madeCells e.zero.toArray (m * e.size) = (List.replicate m e.zero).flatten.toArray := by rw [← hlist]
      rw [harr] at run
      refine goal_newRow (Z' := g.Z) (T := []) (d := true) (e := e) (xs := List.replicate m e.dflt) (fp := [w.heap.size]) (w' := w.alloc (.cells (List.replicate m e.zero).flatten.toArray et)) r hH hn (by simp) (fun _ h => h) (fun _ h => .inl h) rfl rfl rfl (by simp) (fun b hb _ => heap_alloc_old w _ hb) (by simp)
        (fun b hb => by
          simp only [List.mem_singleton] at hb
          subst hb
          exact ⟨fun hz => by have := r.zl _ hz; omega, .inl (Nat.le_refl _)⟩)
        (v := .slice (some ⟨w.heap.size, 0, none⟩) m m) ?_ hk ?_
      · refine ⟨_, m, by rw [List.length_replicate], by simp, .inr ⟨w.heap.size, 0, _, [], rfl, CellsAt.new w _ _, Cat.replicate (Has.zero _ _ _ e) m, rfl, OwnB.new w _ _ ?_⟩⟩
        rw [Nat.zero_add, List.length_flatten]
        simp [h8]
      · unfold execOp
        rw [ho]
        simp only [hx, hz, Sem.run_bind, run, Result.andThen_ok, Sem.run_pure]
    · cases h
  · cases h
end
end VM
