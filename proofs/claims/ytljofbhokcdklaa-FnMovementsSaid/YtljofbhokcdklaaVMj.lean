/- New variables; values out of parts. -/
import Derived.Test.YtljofbhokcdklaaVMi
set_option linter.unusedVariables false
set_option linter.unusedSimpArgs false
namespace VM
open Go

theorem CVr.one {g : Gh} {w : World} {h : Nat → RE} {v : CV} {u : Value} (hne : v ≠ .undef) (hv : CVr g w h v u) : u.oneCell' = true := by
  cases v with
  | undef => exact absurd rfl hne
  | int k n => rw [show u = _ from hv]; rfl
  | bool b => rw [show u = _ from hv]; rfl
  | str s => rw [show u = _ from hv]; rfl
  | nil => rw [show u = _ from hv]; rfl
  | fn f => rw [show u = _ from hv]; rfl
  | sl e xs =>
    obtain ⟨v, hu, hh⟩ := hv
    simp only [List.cons.injEq, and_true] at hu
    subst hu
    rcases hh with ⟨h, _⟩ | ⟨_, _, A, cap, hv, _⟩
    · cases h
    · rw [hv]; rfl
  | rp c x => obtain ⟨b, off, us, h1, _⟩ := hv; rw [h1]; rfl
  | vptr id inc off => exact hv.1.2
  | map id inc => exact hv.1.2
  | row id inc ver p => exact hv.1.2.2
  | rsub id inc ver p lo hi => exact hv.1.2.2
  | ptr id inc ver p i off c => exact hv.1.2.2

theorem cells_of_one {u : Value} (h : u.oneCell' = true) : u.cells = #[u] := by cases u <;> first | rfl | cases h

theorem okCs_mem : ∀ {cs : List CV}, okCs cs = true → ∀ v ∈ cs, v ≠ .undef
  | [], _, v, hv => by simp at hv
  | c :: cs, h, v, hv => by
    cases c <;> simp only [okCs] at h <;> try cases h
    all_goals
      rcases List.mem_cons.1 hv with rfl | hv
      · intro e; cases e
      · exact okCs_mem (by simpa [okCs] using h) v hv

theorem All2.one {g : Gh} {w : World} {h : Nat → RE} : ∀ {cs : List CV} {us : List Value}, okCs cs = true → All2 (CVr g w h) cs us → ∀ u ∈ us, u.oneCell' = true
  | [], [], _, _, u, hu => by simp at hu
  | c :: cs, v :: us, hok, ⟨h1, h2⟩, u, hu => by
    rcases List.mem_cons.1 hu with rfl | hu
    · exact h1.one (okCs_mem hok c (by simp))
    · refine All2.one (cs := cs) ?_ h2 u hu
      cases c <;> simp [okCs] at hok <;> exact hok
  | [], _ :: _, _, h, _, _ => h.elim
  | _ :: _, [], _, h, _, _ => h.elim

theorem SVr.cells {g : Gh} {w : World} {h : Nat → RE} {v : SV} {u : Value} (hv : SVr g w h v u) (hok : okCs v.cells = true) : All2 (CVr g w h) v.cells u.cells.toList := by
  cases v with
  | one c =>
    have hne : c ≠ .undef := okCs_mem hok c (by simp [SV.cells])
    rw [cells_of_one (CVr.one hne hv)]
    exact ⟨hv, trivial⟩
  | agg vs =>
    obtain ⟨us, rfl, h2⟩ := hv
    exact h2
  | tup xs => simp [SV.cells, okCs] at hok

theorem okCs_append : ∀ (l m : List CV), okCs (l ++ m) = (okCs l && okCs m)
  | [], m => by simp [okCs]
  | c :: l, m => by cases c <;> simp [okCs, okCs_append l m]

theorem gath_ok {H : Nat → RE} {m : Tk} : ∀ {c : CK} {cs : List CV} {x : c.den} {ids : List Nat} {rest : List CV}, gath H m c cs = some (x, ids, rest) → ∃ pre, cs = pre ++ rest ∧ okCs pre = true ∧ pre.length = c.size
  | .int k, cs, x, ids, rest, h => by
    cases cs with
    | nil => simp [gath] at h
    | cons v r' =>
      cases v <;> simp only [gath] at h <;> try cases h
      split at h <;> try cases h
      exact ⟨[_], rfl, rfl, rfl⟩
  | .bool, cs, x, ids, rest, h => by
    cases cs with
    | nil => simp [gath] at h
    | cons v r' =>
      cases v <;> simp only [gath] at h <;> try cases h
      exact ⟨[_], rfl, rfl, rfl⟩
  | .str, cs, x, ids, rest, h => by
    cases cs with
    | nil => simp [gath] at h
    | cons v r' =>
      cases v <;> simp only [gath] at h <;> try cases h
      exact ⟨[_], rfl, rfl, rfl⟩
  | .unit, cs, x, ids, rest, h => by
    cases cs <;> (simp only [gath, Option.some.injEq, Prod.mk.injEq] at h; obtain ⟨_, _, rfl⟩ := h; exact ⟨[], rfl, rfl, rfl⟩)
  | .sl e, cs, x, ids, rest, h => by
    cases cs with
    | nil => simp [gath] at h
    | cons v r' =>
    have h' : (match slOf H m v e with | some (xs, ids) => some (xs, ids, r') | none => none) = some (x, ids, rest) := h
    clear h
    cases hs : slOf H m v e with
    | none => rw [hs] at h'; cases h'
    | some q =>
      rw [hs] at h'
      obtain ⟨xs, ids'⟩ := q
      simp only [Option.some.injEq, Prod.mk.injEq] at h'
      obtain ⟨rfl, rfl, rfl⟩ := h'
      refine ⟨[v], rfl, ?_, rfl⟩
      cases v <;> first | rfl | (simp [slOf] at hs)
  | .pair p q, cs, x, ids, rest, h => by
    have h' : (match gath H m p cs with
      | some (x, i1, r1) => match gath H m q r1 with
        | some (y, i2, r2) => some ((x, y), i1 ++ i2, r2)
        | none => none
      | none => none) = some (x, ids, rest) := by
        cases cs <;> exact h
    clear h
    split at h' <;> try cases h'
    rename_i y i1 r1 hp
    split at h' <;> try cases h'
    rename_i z i2 r2 hq
    obtain ⟨p1, rfl, k1, l1⟩ := gath_ok hp
    obtain ⟨p2, rfl, k2, l2⟩ := gath_ok hq
    exact ⟨p1 ++ p2, by simp, by rw [okCs_append, k1, k2]; rfl, by rw [List.length_append, l1, l2]; rfl⟩

theorem gathAll_some {H : Nat → RE} {m : Tk} {c : CK} {cs : List CV} {x : c.den} {ids : List Nat} (h : gathAll H m c cs = some (x, ids)) : gath H m c cs = some (x, ids, []) ∧ okCs cs = true ∧ cs.length = c.size := by
  unfold gathAll at h
  split at h
  · rename_i x' ids' hg
    simp only [Option.some.injEq, Prod.mk.injEq] at h
    obtain ⟨rfl, rfl⟩ := h
    obtain ⟨pre, h1, h2, h3⟩ := gath_ok hg
    rw [List.append_nil] at h1
    subst h1
    exact ⟨hg, h2, h3⟩
  · cases h

section
variable {P : Program} {F : Fx} {σ : St} {a : Act} {w : World} {g : Gh} {R : Type} {tt : List (Nat × TD)} {env : List Ct} {k : Nat} {o : Oper} {H : Nat → RE} {K : Upd → Option R} {y : R}

/-- The new names are no names of written parameters. -/
abbrev NwOk (F : Fx) (o : Oper) : Prop := ∀ p ∈ F.P0, ∀ j, j < 16 → p.1 ≠ nid o.dst j

theorem goal_newVar (r : Rl F σ a w g) (hH : HOk H σ.h o.dst) (hn : NwOk F o) {cs : List CV} {us : List Value} (t : TypeId) (hc : All2 (CVr g w σ.h) cs us)
    (hK : K ⟨.one (.vptr (nid o.dst 0) ((H (nid o.dst 0)).inc + 1) 0), [(nid o.dst 0, ⟨(H (nid o.dst 0)).inc + 1, 0, .var cs⟩)]⟩ = some y)
    (h : (execOp a.eval o).run P w = .ok (.value (.pointer (some ⟨w.heap.size, 0, none⟩))) (w.alloc (.cells us.toArray t))) : Goal P F σ a w g o K y := by
  have hm := hH.n 0 (by omega)
  obtain ⟨g', r', hz, hl, hf, _, x⟩ := Rl.make (c := .var cs) r hm (fun p hp => hn p hp 0 (by omega)) (T := []) (by simp) (v := .pointer (some ⟨w.heap.size, 0, none⟩)) (fp := [w.heap.size])
    (w' := w.alloc (.cells us.toArray t)) (Z' := g.Z) (fun b hb => hb) (fun b hb => .inl hb) rfl rfl rfl (by simp) (fun b hb _ => heap_alloc_old w _ hb) (by simp)
    (fun b hb => by
      simp only [List.mem_singleton] at hb
      subst hb
      exact ⟨fun hz => by have := r.zl _ hz; omega, .inl (Nat.le_refl _)⟩)
    (fun h' g' hz x => ⟨w.heap.size, us, t, rfl, rfl, heap_alloc_new w _, hc.mono fun _ _ => CVr.ext x⟩)
  refine ⟨_, hK, OpPost.value h ⟨g', r', ?_⟩⟩
  refine ⟨⟨?_, rfl⟩, fun _ cs' hc' => ⟨w.heap.size, hl, rfl⟩⟩
  show _ ≤ (setH σ.h [(nid o.dst 0, ⟨(H (nid o.dst 0)).inc + 1, 0, .var cs⟩)] (nid o.dst 0)).inc
  rw [setH_cons, if_pos rfl]
  exact Nat.le_refl _

theorem zero_vals (g : Gh) (w : World) (h : Nat → RE) : ∀ c : CK, All2 (CVr g w h) (expZ c) c.zero
  | .int k => ⟨rfl, trivial⟩
  | .bool => ⟨rfl, trivial⟩
  | .str => ⟨rfl, trivial⟩
  | .sl e => ⟨rfl, trivial⟩
  | .unit => trivial
  | .pair a b => (zero_vals g w h a).append (zero_vals g w h b)

theorem cells_zeroV : ∀ c : CK, (zeroV c).cells = c.zero.toArray
  | .int k => rfl
  | .bool => rfl
  | .str => rfl
  | .sl e => rfl
  | .unit => rfl
  | .pair a b => rfl

theorem act_alloc (htt : TTok P tt) (r : Rl F σ a w g) (hH : HOk H σ.h o.dst) (hn : NwOk F o) {t : TypeId} (ho : o.op = .alloc t) (h : act tt env k o (o.op.operands.toList.map σ.ev) H K = some y) : Goal P F σ a w g o K y := by
  unfold act at h
  rw [ho] at h
  simp only [Op.operands] at h
  split at h
  · split at h
    · rename_i c hc
      obtain ⟨b, fs, hl⟩ := kindT_some hc
      refine goal_newVar r hH hn t (zero_vals g w σ.h c) h ?_
      unfold execOp
      rw [ho]
      simp [Instr.alloc, (htt.is t c b fs hl).zeroV, newVar, newRow, cells_zeroV]
    · cases h
  · cases h

theorem act_box (htt : TTok P tt) (r : Rl F σ a w g) (hH : HOk H σ.h o.dst) (hn : NwOk F o) {t : TypeId} {x : Operand} (ho : o.op = .box t x) (h : act tt env k o (o.op.operands.toList.map σ.ev) H K = some y) : Goal P F σ a w g o K y := by
  unfold act at h
  rw [ho] at h
  simp only [Op.operands] at h
  split at h
  · rename_i v hv
    simp at hv
    subst hv
    split at h
    · rename_i c hc
      obtain ⟨hb, h⟩ := cond_some h
      rw [Bool.and_eq_true] at hb
      have hcs := (ev_sound r x).cells hb.1
      refine goal_newVar r hH hn t hcs h ?_
      unfold execOp
      rw [ho]
      simp [Instr.box, newVar, newRow]
    · cases h
  · cases h
end
end VM
