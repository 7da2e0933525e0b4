/- append, of what is owned and of what is shared. -/
import Derived.Test.YtljofbhokcdklaaVMm
set_option linter.unusedVariables false
set_option linter.unusedSimpArgs false
namespace VM
open Go

theorem Has.one {Z : Nat → Prop} {w : World} {d : Bool} : ∀ {c : CK} {x : c.den} {us : List Value} {fp : List Nat}, Has Z w d c x us fp → ∀ u ∈ us, u.oneCell' = true
  | .int _, _, _, _, h, u, hu => by rw [h.1] at hu; simp at hu; subst hu; rfl
  | .bool, _, _, _, h, u, hu => by rw [h.1] at hu; simp at hu; subst hu; rfl
  | .str, _, _, _, h, u, hu => by rw [h.1] at hu; simp at hu; subst hu; rfl
  | .unit, _, _, _, h, u, hu => by rw [h.1] at hu; simp at hu
  | .pair a b, x, us, fp, ⟨u1, u2, f1, f2, h1, h2, h3, h4⟩, u, hu => by
    rw [h1, List.mem_append] at hu
    exact hu.elim (Has.one h3 u) (Has.one h4 u)
  | .sl e, xs, us, fp, ⟨v, hus, h⟩, u, hu => by
    rw [hus] at hu
    simp at hu
    subst hu
    rcases h with ⟨_, A, cap, hv, _⟩ | ⟨_, _, A, cap, hv, _⟩ <;> (rw [hv]; rfl)

theorem Cat.one_cells {α : Type} {P : α → List Value → List Nat → Prop} (hP : ∀ x u f, P x u f → ∀ v ∈ u, v.oneCell' = true) : ∀ {xs : List α} {us fp}, Cat P xs us fp → ∀ u ∈ us, u.oneCell' = true
  | [], _, _, ⟨h, _⟩ => by simp [h]
  | x :: xs, _, _, ⟨u1, u2, f1, f2, h, _, h1, h2⟩ => by
    intro u hu
    rw [h, List.mem_append] at hu
    exact hu.elim (hP _ _ _ h1 u) (Cat.one_cells hP h2 u)

section
variable {P : Program} {F : Fx} {σ : St} {a : Act} {w : World} {g : Gh} {R : Type} {tt : List (Nat × TD)} {env : List Ct} {k : Nat} {o : Oper} {H : Nat → RE} {K : Upd → Option R} {y : R}

/-- The source of an append: it reads, and its blocks are those of the roots 'I'. -/
structure Src (g : Gh) (w : World) (H h : Nat → RE) (d : Bool) (e : CK) (xs : List e.den) (u : Value) (I : List Nat) (A : Option Addr) (cap : Nat) (vs : List Value) (fs : List Nat) : Prop where
  v : u = .slice A xs.length cap
  le : xs.length ≤ cap
  cat : Cat (Has g.Z w d e) xs vs fs
  at_ : xs = [] ∨ ∃ b off, A = some ⟨b, off, none⟩ ∧ CellsAt w b off vs
  same : ∀ id ∈ I, H id = h id
  fp : ∀ b ∈ fs, ∃ id ∈ I, b ∈ g.fp id
  nd : fs.Nodup

theorem row_src (r : Rl F σ a w g) (hH : HOk H σ.h o.dst) {id inc ver : Nat} {R : Row1} (h : rowAt H id inc ver [] = some R) {u : Value} (hu : CVr g w σ.h (.row id inc ver []) u) :
    ∃ A cap vs fs, Src g w H σ.h R.d R.e R.xs u [id] A cap vs fs ∧ ((A = none ∧ R.xs = [] ∧ cap = 0 ∧ g.fp id = []) ∨ ∃ b off, A = some ⟨b, off, none⟩ ∧ CellsAt w b off vs ∧ OwnB w b (off + cap * R.e.size) ∧ g.fp id = b :: fs) := by
  obtain ⟨k1, k2, k3, _⟩ := rowAt_sound r hH h
  obtain ⟨f1, fm, f2, m1, m2, m3⟩ := r.row hH h (u := u) (fun dd ee xx hc => hu.2 dd ee xx hc ⟨k2.symm, .inl rfl⟩)
  obtain ⟨rfl, rfl⟩ := m3 rfl
  simp only [List.nil_append, List.append_nil] at m1
  have hnd := r.nd id
  obtain ⟨A, cap, hv, hc, hm⟩ := m2
  rcases hm with ⟨h1, h2, h3, h4⟩ | ⟨b, off, vs, fs, hA, h1, h2, h3, h4⟩
  · refine ⟨A, cap, [], [], ⟨hv, hc, by rw [h1]; exact ⟨rfl, rfl⟩, .inl h1, by simpa using k1, by simp, by simp⟩, .inl ⟨h3, h1, h4, by rw [m1, h2]⟩⟩
  · rw [m1, h3] at hnd
    exact ⟨A, cap, vs, fs, ⟨hv, hc, h2, .inr ⟨b, off, hA, h1⟩, by simpa using k1, fun b' hb => ⟨id, by simp, by rw [m1, h3]; simp [hb]⟩, (List.nodup_cons.1 hnd).2⟩, .inr ⟨b, off, hA, h1, h4, by rw [m1, h3]⟩⟩

theorem sl_src {e : CK} {xs : List e.den} {u : Value} (h : Has g.Z w false (.sl e) xs [u] []) : ∃ A cap vs, Src g w H σ.h false e xs u [] A cap vs [] := by
  obtain ⟨v, hu, hh⟩ := h
  simp only [List.cons.injEq, and_true] at hu
  subst hu
  rcases hh with ⟨h, _⟩ | ⟨_, _, A, cap, hv, hc, hh⟩
  · cases h
  · rcases hh with h1 | ⟨b, off, vs, fs, hA, h1, h2, h3⟩
    · exact ⟨A, cap, [], hv, hc, by rw [h1]; exact ⟨rfl, rfl⟩, .inl h1, by simp, by simp, by simp⟩
    · have hfs : fs = [] := by
        have := Cat.fp_mem (B := fun _ => False) (fun x u f h b hb => by rw [Has.fp_false h] at hb; simp at hb) h2
        cases fs with
        | nil => rfl
        | cons a l => exact (this a (by simp)).elim
      subst hfs
      exact ⟨A, cap, vs, hv, hc, h2, .inr ⟨b, off, hA, h1⟩, by simp, by simp, by simp⟩

theorem Cat.share {Z Z' : Nat → Prop} {w : World} {d : Bool} {e : CK} (hZ : ∀ b, Z b → Z' b) : ∀ {xs : List e.den} {vs : List Value} {fs : List Nat}, Cat (Has Z w d e) xs vs fs → (∀ b ∈ fs, Z' b) → Cat (Has Z' w false e) xs vs []
  | [], _, _, ⟨h, _⟩, _ => ⟨h, rfl⟩
  | y :: ys, _, _, ⟨u1, u2, f1, f2, h, hf, k1, k2⟩, hb => by
    subst hf
    exact ⟨u1, u2, [], [], h, rfl, Has.share hZ k1 (fun b h => hb b (by simp [h])), Cat.share hZ k2 (fun b h => hb b (by simp [h]))⟩

theorem goal_append (htt : TTok P tt) (r : Rl F σ a w g) (hH : HOk H σ.h o.dst) (hn : NwOk F o) {x z : Operand} {t t' : TypeId} (ho : o.op = .call { callee := .builtin .append, args := #[x, z], argTypes := #[t, t'] })
    {e e' : CK} {bb : Nat} (he : elemT tt t = some e) (hbb : ebytes tt t = some bb) (he' : elemT tt t' = some e') {xs ys : List e.den} (hfits : fits (xs.length + ys.length) bb = true)
    {T : List Nat} (hT : ∀ id ∈ T, H id = σ.h id) {d : Bool} {Z' : Nat → Prop} {A A' : Option Addr} {cap cap' : Nat} {vs ws : List Value} {fs : List Nat}
    (hx : a.eval x = .slice A xs.length cap) (hle : xs.length ≤ cap) (hy : a.eval z = .slice A' ys.length cap')
    (hA : (A = none ∧ xs = [] ∧ cap = 0) ∨ ∃ b off, A = some ⟨b, off, none⟩ ∧ CellsAt w b off vs ∧ OwnB w b (off + cap * e.size) ∧ ∃ id ∈ T, b ∈ g.fp id)
    (hA' : ys = [] ∨ ∃ b off, A' = some ⟨b, off, none⟩ ∧ CellsAt w b off ws)
    (hl1 : vs.length = xs.length * e.size) (hl2 : ws.length = ys.length * e.size) (h1 : ∀ u ∈ ws, u.oneCell' = true)
    (hcat : Cat (Has Z' w d e) (xs ++ ys) (vs ++ ws) fs)
    (hZZ : ∀ b, g.Z b → Z' b) (hZT : ∀ b, Z' b → g.Z b ∨ ((∃ id ∈ T, b ∈ g.fp id) ∧ ∀ off, A ≠ some ⟨b, off, none⟩))
    (hfs : ∀ b ∈ fs, ¬ Z' b ∧ (∃ id ∈ T, b ∈ g.fp id) ∧ ∀ off, A ≠ some ⟨b, off, none⟩) (hnd : fs.Nodup)
    (hK : K ⟨.one (.row (nid o.dst 0) ((H (nid o.dst 0)).inc + 1) 0 []), (nid o.dst 0, ⟨(H (nid o.dst 0)).inc + 1, 0, .row d e (xs ++ ys)⟩) :: dead H T⟩ = some y) : Goal P F σ a w g o K y := by
  obtain ⟨ff, hl⟩ := ebytes_some hbb he
  obtain ⟨et, i, zz, e1, e2, e3, e4, e5, e6, e7, e8⟩ := elem_facts htt hl
  obtain ⟨b', fs', hl'⟩ := elemT_some he'
  obtain ⟨et', i', zz', p1, _⟩ := elem_facts htt hl'
  simp only [fits, Bool.and_eq_true, decide_eq_true_eq, Nat.blt_eq] at hfits
  obtain ⟨v', w', hrun, os, tp, ou, sz, hend⟩ := run_append_gen (P := P) (w := w) (t := t) (t' := t') (ty := o.type) e1 p1 e3 e6 e5 (by rw [e7]; simpa using e8) e2 (A := A) (n := xs.length) (cap := cap) (olds := vs) hl1 hle
    (by
      rcases hA with ⟨h1, h2, h3⟩ | ⟨b, off, h1, h2, h3, _⟩
      · exact .inl ⟨h1, by rw [h2]; rfl, h3⟩
      · exact .inr ⟨b, off, h1, h2, h3⟩)
    (A' := A') (m := ys.length) (cap' := cap') (news := ws) hl2 (by
      rcases hA' with h | h
      · exact .inl (by rw [h]; rfl)
      · exact .inr h) h1 (by rw [e4]; exact hfits.1) (by rw [e4]; exact hfits.2)
  have hexec : (execOp a.eval o).run P w = .ok (.value v') w' := by
    unfold execOp
    rw [ho]
    simp [resolve, invoke, builtin, hx, hy, hrun]
  have hzlt : ∀ b, Z' b → b < w.heap.size := by
    intro b hb
    rcases hZT b hb with h | ⟨⟨id, _, h⟩, _⟩
    · exact r.zl b h
    · exact (r.rt id).lt b h
  rcases hend with ⟨a1, a2, a3, rfl, rfl⟩ | ⟨b, off, cap2, rfl, hle2, hc2, hown2, hb2, hfr⟩
  · have hx0 : xs = [] := List.length_eq_zero_iff.1 a3
    have hy0 : ys = [] := List.length_eq_zero_iff.1 a2
    have hfs0 : fs = [] := by subst hx0 hy0; exact hcat.2
    subst hfs0
    refine goal_newRow (Z' := Z') (T := T) (fp := []) r hH hn hT hZZ (fun b hb => (hZT b hb).imp id (·.1)) os tp ou sz (fun _ _ _ => rfl) (by simp) (by simp) ?_ hK hexec
    subst hx0 hy0
    exact ⟨none, 0, rfl, Nat.le_refl _, .inl ⟨rfl, rfl, rfl, rfl⟩⟩
  · have hkeep : ∀ k, k < w.heap.size → (∀ off, A ≠ some ⟨k, off, none⟩) → w'.heap[k]? = w.heap[k]? := fun k hk hne => hfr k hk (fun off e => hne off e)
    have hAfp : ∀ k off, A = some ⟨k, off, none⟩ → ∃ id ∈ T, k ∈ g.fp id := by
      intro k off e
      rcases hA with ⟨h, _⟩ | ⟨b, off', h, _, _, hid⟩
      · rw [e] at h; cases h
      · rw [e] at h; cases h; exact hid
    have hZk : ∀ b, Z' b → w'.heap[b]? = w.heap[b]? := by
      intro b hb
      refine hkeep b (hzlt b hb) ?_
      rcases hZT b hb with h | ⟨_, h⟩
      · intro off e
        obtain ⟨id, _, hid⟩ := hAfp b off e
        exact (r.sp id b hid).1 h
      · exact h
    refine goal_newRow (Z' := Z') (T := T) (fp := b :: fs) r hH hn hT hZZ (fun b hb => (hZT b hb).imp id (·.1)) os tp ou sz
      (fun k hk hne => hkeep k hk (fun off e => by obtain ⟨id, h1, h2⟩ := hAfp k off e; exact hne id h1 h2)) ?_ ?_ ?_ hK hexec
    · refine List.nodup_cons.2 ⟨fun hb => ?_, hnd⟩
      obtain ⟨_, ⟨id, h1, h2⟩, h3⟩ := hfs b hb
      rcases hb2 with h | h
      · exact h3 off h
      · have := (r.rt id).lt b h2; omega
    · intro k hk
      rcases List.mem_cons.1 hk with rfl | hk
      · rcases hb2 with h | h
        · obtain ⟨id, h1, h2⟩ := hAfp k off h
          refine ⟨fun hz => ?_, .inr ⟨id, h1, h2⟩⟩
          rcases hZT k hz with h' | ⟨_, h'⟩
          · exact (r.sp id k h2).1 h'
          · exact h' off h
        · exact ⟨fun hz => by have := hzlt k hz; omega, .inl (by omega)⟩
      · exact ⟨(hfs k hk).1, .inr (hfs k hk).2.1⟩
    · refine ⟨some ⟨b, off, none⟩, cap2, by simp, by simpa using hle2, .inr ⟨b, off, vs ++ ws, fs, rfl, hc2, ?_, rfl, hown2⟩⟩
      refine hcat.mono _ (fun x _ u f hf hxx => Has.frame hZk (fun _ h => h) hxx (fun b' hb' => ?_))
      obtain ⟨_, ⟨id, h1, h2⟩, h3⟩ := hfs b' (hf b' hb')
      exact hkeep b' ((r.rt id).lt b' h2) h3

def dOf (H : Nat → RE) : CV → Bool
  | .row id inc ver p => match rowAt H id inc ver p with | some r => r.d | none => true
  | _ => true
def dOfY (H : Nat → RE) : CV → Bool
  | .row id inc ver p => match rowAt H id inc ver p with | some r => r.d | none => true
  | .nil => true
  | _ => false

theorem nil_src {d : Bool} {e : CK} {u : Value} (h : u = .slice none 0 0) : Src g w H σ.h d e ([] : List e.den) u [] none 0 [] [] :=
  ⟨h, Nat.le_refl _, ⟨rfl, rfl⟩, .inl rfl, by simp, by simp, by simp⟩

theorem x_src (r : Rl F σ a w g) (hH : HOk H σ.h o.dst) {v : CV} {e : CK} {xs : List e.den} {I : List Nat} (h : slOf H .shr v e = some (xs, I)) (hne : ∀ e' ys, v ≠ .sl e' ys) {u : Value} (hu : CVr g w σ.h v u) :
    ∃ A cap vs fs, Src g w H σ.h (dOf H v) e xs u I A cap vs fs ∧ ((A = none ∧ xs = [] ∧ cap = 0 ∧ ∀ id ∈ I, g.fp id = []) ∨ ∃ b off id, I = [id] ∧ A = some ⟨b, off, none⟩ ∧ CellsAt w b off vs ∧ OwnB w b (off + cap * e.size) ∧ g.fp id = b :: fs) := by
  cases v with
  | nil =>
    simp only [slOf, Option.some.injEq, Prod.mk.injEq] at h
    obtain ⟨rfl, rfl⟩ := h
    exact ⟨none, 0, [], [], nil_src hu, .inl ⟨rfl, rfl, rfl, by simp⟩⟩
  | row id inc ver p =>
    simp only [slOf] at h
    split at h
    · rename_i R hR
      split at h
      · rename_i ys hy
        cases p with
        | cons => simp at h
        | nil =>
          simp only [Option.some.injEq, Prod.mk.injEq] at h
          obtain ⟨rfl, rfl⟩ := h
          obtain ⟨d', zs, rfl, rfl⟩ := Row1.as_some hy
          obtain ⟨A, cap, vs, fs, hs, hor⟩ := row_src r hH hR hu
          have hd : dOf H (.row id inc ver []) = d' := by simp [dOf, hR]
          rw [hd]
          refine ⟨A, cap, vs, fs, hs, ?_⟩
          rcases hor with ⟨h1, h2, h3, h4⟩ | ⟨b, off, h1, h2, h3, h4⟩
          · exact .inl ⟨h1, h2, h3, by simpa using h4⟩
          · exact .inr ⟨b, off, id, rfl, h1, h2, h3, h4⟩
      · cases h
    · cases h
  | sl e' ys => exact absurd rfl (hne e' ys)
  | rsub id inc ver p lo hi => simp [slOf] at h
  | undef | int | bool | str | rp | fn | vptr | ptr | map => simp [slOf] at h

theorem y_src (r : Rl F σ a w g) (hH : HOk H σ.h o.dst) {v : CV} {e : CK} {xs : List e.den} {I : List Nat} (h : slOf H .shr v e = some (xs, I)) {u : Value} (hu : CVr g w σ.h v u) :
    ∃ A cap vs fs, Src g w H σ.h (dOfY H v) e xs u I A cap vs fs := by
  by_cases hsl : ∃ e' ys, v = .sl e' ys
  · obtain ⟨e', ys, rfl⟩ := hsl
    simp only [slOf] at h
    split at h
    · rename_i he
      subst he
      simp only [Option.some.injEq, Prod.mk.injEq, castL_id] at h
      obtain ⟨rfl, rfl⟩ := h
      obtain ⟨A, cap, vs, hs⟩ := sl_src (H := H) (σ := σ) hu
      exact ⟨A, cap, vs, [], hs⟩
    · cases h
  · obtain ⟨A, cap, vs, fs, hs, _⟩ := x_src r hH h (fun e' ys e => hsl ⟨e', ys, e⟩) hu
    refine ⟨A, cap, vs, fs, ?_⟩
    have : dOfY H v = dOf H v := by
      cases v <;> simp only [dOf, dOfY] <;> first | rfl | (simp [slOf] at h; done) | skip
      exact absurd rfl (fun e => hsl ⟨_, _, e⟩)
    rw [this]
    exact hs

theorem disB_mem : ∀ {l m : List Nat}, disB l m = true → ∀ i ∈ l, i ∉ m
  | [], m, _, i, hi => by simp at hi
  | a :: l, m, h, i, hi => by
    simp only [disB] at h
    cases hm : memB m a with
    | true => rw [hm] at h; cases h
    | false =>
      rw [hm] at h
      rcases List.mem_cons.1 hi with rfl | hi
      · intro hmem
        have key : ∀ m : List Nat, i ∈ m → memB m i = true := by
          intro m
          induction m with
          | nil => intro h; simp at h
          | cons b m ih =>
            intro h
            simp only [memB]
            rcases List.mem_cons.1 h with rfl | h
            · simp
            · rw [ih h]; cases Nat.beq b i <;> rfl
        rw [key m hmem] at hm
        cases hm
      · exact disB_mem h i hi

theorem act_append (htt : TTok P tt) (r : Rl F σ a w g) (hH : HOk H σ.h o.dst) (hn : NwOk F o) {as : Array Operand} {ts : Array TypeId} (ho : o.op = .call { callee := .builtin .append, args := as, argTypes := ts })
    (h : act tt env k o (o.op.operands.toList.map σ.ev) H K = some y) : Goal P F σ a w g o K y := by
  unfold act at h
  rw [ho] at h
  simp only [Op.operands, Call.operands, Array.empty_append] at h
  obtain ⟨l, rfl⟩ : ∃ l : List Operand, as = l.toArray := ⟨as.toList, by simp⟩
  obtain ⟨lt, rfl⟩ : ∃ l : List TypeId, ts = l.toArray := ⟨ts.toList, by simp⟩
  match l, h with
  | [], h => cases h
  | [z], h => simp only [List.map_cons, List.map_nil] at h; generalize σ.ev z = v1 at h; rcases v1 with v1 | v1 | v1 <;> first | (cases h; done) | (cases v1 <;> cases h; done)
  | z :: z' :: z2 :: l', h =>
    simp only [List.map_cons] at h
    generalize σ.ev z = v1 at h
    generalize σ.ev z' = v2 at h
    rcases v1 with v1 | v1 | v1 <;> rcases v2 with v2 | v2 | v2 <;> first | (cases h; done) | (cases v1 <;> cases v2 <;> cases h; done)
  | [p, q], h =>
    simp only [List.map_cons, List.map_nil] at h
    have hp := ev_sound r p
    have hq := ev_sound r q
    generalize σ.ev p = v1 at h hp
    generalize σ.ev q = v2 at h hq
    rcases v1 with v1 | v1 | v1 <;> rcases v2 with v2 | v2 | v2 <;> try (cases h; done)
    simp only at h
    match lt, h with
    | [], h => cases h
    | [_], h => cases h
    | _ :: _ :: _ :: _, h => cases h
    | [t, t'], h =>
    simp only at h
    split at h
    case h_2 => cases h
    rename_i e bb e' he hbb he'
    split at h
    · cases h
    rename_i xs xi hxi
    have hp' : CVr g w σ.h v1 (a.eval p) := hp
    have hq' : CVr g w σ.h v2 (a.eval q) := hq
    have hns : ∀ e' ys, v1 ≠ .sl e' ys := by
      rintro e' ys rfl
      cases h
    have h2 : (bif e.flat then
                  match slOf H .bor v2 e with
                  | some (ys, yi) => bif disB xi yi then grd (fits (xs.length + ys.length) bb) (K ⟨.one (.row (nid o.dst 0) ((H (nid o.dst 0)).inc + 1) 0 []), (nid o.dst 0, ⟨(H (nid o.dst 0)).inc + 1, 0, .row true e (xs ++ ys)⟩) :: dead H xi⟩) else none
                  | none => none
                else match slOf H .shr v2 e with
                  | some (ys, yi) =>
                    bif disB xi yi then grd (fits (xs.length + ys.length) bb) (K ⟨.one (.row (nid o.dst 0) ((H (nid o.dst 0)).inc + 1) 0 []), (nid o.dst 0, ⟨(H (nid o.dst 0)).inc + 1, 0, .row (dOf H v1 && dOfY H v2) e (xs ++ ys)⟩) :: dead H (xi ++ yi)⟩) else none
                  | none => none) = some y := by
      cases v1 <;> first | exact h | exact absurd rfl (hns _ _)
    clear h
    obtain ⟨A, cap, vs, fs, hs, hA⟩ := x_src r hH hxi hns hp'
    obtain ⟨ff, hl⟩ := ebytes_some hbb he
    have hl1 : vs.length = xs.length * e.size := Cat.len (fun _ _ _ h => Has.len h) hs.cat
    have hfp : ∀ id ∈ xi, ∀ b ∈ g.fp id, b ∈ fs ∨ ∃ off, A = some ⟨b, off, none⟩ := by
      intro id hid b hb
      rcases hA with ⟨_, _, _, h4⟩ | ⟨b0, off, id0, rfl, h2, _, _, h5⟩
      · rw [h4 id hid] at hb; simp at hb
      · simp only [List.mem_singleton] at hid
        subst hid
        rw [h5] at hb
        rcases List.mem_cons.1 hb with rfl | hb
        · exact .inr ⟨off, h2⟩
        · exact .inl hb
    have hAid : ∀ b off, A = some ⟨b, off, none⟩ → ∃ id ∈ xi, b ∈ g.fp id := by
      intro b off e
      rcases hA with ⟨h, _⟩ | ⟨b0, off0, id0, rfl, h2, _, _, h5⟩
      · rw [e] at h; cases h
      · rw [e] at h2; cases h2; exact ⟨id0, by simp, by rw [h5]; simp⟩
    have hfsA : ∀ b ∈ fs, ∀ off, A ≠ some ⟨b, off, none⟩ := by
      intro b hb off e
      rcases hA with ⟨h, _⟩ | ⟨b0, off0, id0, rfl, h2, _, _, h5⟩
      · rw [e] at h; cases h
      · rw [e] at h2
        cases h2
        have := r.nd id0
        rw [h5] at this
        exact (List.nodup_cons.1 this).1 hb
    have hAown : ∀ T : List Nat, (∀ id ∈ xi, id ∈ T) → ((A = none ∧ xs = [] ∧ cap = 0) ∨ ∃ b off, A = some ⟨b, off, none⟩ ∧ CellsAt w b off vs ∧ OwnB w b (off + cap * e.size) ∧ ∃ id ∈ T, b ∈ g.fp id) := by
      intro T hT
      rcases hA with ⟨h1, h2, h3, _⟩ | ⟨b, off, id, rfl, h1, h2, h3, h4⟩
      · exact .inl ⟨h1, h2, h3⟩
      · exact .inr ⟨b, off, h1, h2, h3, id, hT id (by simp), by rw [h4]; simp⟩
    cases hfl : e.flat with
    | true =>
      rw [hfl] at h2
      simp only [cond_true] at h2
      split at h2
      case h_2 => cases h2
      rename_i ys yi hyi
      obtain ⟨hd, h3⟩ := cond_some h2
      obtain ⟨hfits, hK⟩ := grd_some h3
      have hys := slOf_shared (Z' := fun _ => True) r hH hyi hq' (fun _ _ => trivial) (fun _ _ _ _ => trivial)
      obtain ⟨A', cap', ws, hs'⟩ := sl_src (H := H) (σ := σ) (g := ⟨fun _ => True, g.loc, g.fp⟩) hys
      have flat : ∀ {Z1 : Nat → Prop} {d1 : Bool} {l : List e.den} {us fs}, Cat (Has Z1 w d1 e) l us fs → Cat (Has g.Z w true e) l us [] := by
        intro Z1 d1 l
        induction l with
        | nil => rintro us fs ⟨h, _⟩; exact ⟨h, rfl⟩
        | cons x l ih =>
          rintro us fs ⟨u1, u2, f1, f2, h, _, k1, k2⟩
          obtain ⟨_, k⟩ := Has.flat hfl k1
          exact ⟨u1, u2, [], [], h, rfl, k _ _ _, ih k2⟩
      exact goal_append htt r hH hn ho he hbb he' hfits hs.same hs.v hs.le hs'.v (hAown xi (fun _ h => h)) hs'.at_ hl1 (Cat.len (fun _ _ _ h => Has.len h) hs'.cat) (Cat.one_cells (fun _ _ _ h => Has.one h) hs'.cat)
        (Z' := g.Z) (fs := []) ((flat hs.cat).append (flat hs'.cat)) (fun _ h => h) (fun _ h => .inl h) (by simp) (by simp) hK
    | false =>
      rw [hfl] at h2
      simp only [cond_false] at h2
      split at h2
      case h_2 => cases h2
      rename_i ys yi hyi
      obtain ⟨hd, h3⟩ := cond_some h2
      obtain ⟨hfits, hK⟩ := grd_some h3
      obtain ⟨A', cap', ws, gs, hs'⟩ := y_src r hH hyi hq'
      have hT : ∀ id ∈ xi ++ yi, H id = σ.h id := fun id hid => (List.mem_append.1 hid).elim (hs.same id) (hs'.same id)
      have hgsA : ∀ b ∈ gs, ∀ off, A ≠ some ⟨b, off, none⟩ := by
        intro b hb off e
        obtain ⟨id, h1, h2⟩ := hs'.fp b hb
        obtain ⟨id', h3, h4⟩ := hAid b off e
        have := r.dj id id' b h2 h4
        subst this
        exact disB_mem hd id h3 h1
      have hin : ∀ b ∈ fs ++ gs, (∃ id ∈ xi ++ yi, b ∈ g.fp id) ∧ ∀ off, A ≠ some ⟨b, off, none⟩ := by
        intro b hb
        rcases List.mem_append.1 hb with hb | hb
        · obtain ⟨id, h1, h2⟩ := hs.fp b hb
          exact ⟨⟨id, by simp [h1], h2⟩, hfsA b hb⟩
        · obtain ⟨id, h1, h2⟩ := hs'.fp b hb
          exact ⟨⟨id, by simp [h1], h2⟩, hgsA b hb⟩
      have hndd : (fs ++ gs).Nodup := by
        refine List.nodup_append.2 ⟨hs.nd, hs'.nd, ?_⟩
        rintro b h1 b' h2 rfl
        obtain ⟨id, h3, h4⟩ := hs.fp b h1
        obtain ⟨id', h5, h6⟩ := hs'.fp b h2
        have := r.dj id id' b h4 h6
        subst this
        exact disB_mem hd id h3 h5
      have hl2 : ws.length = ys.length * e.size := Cat.len (fun _ _ _ h => Has.len h) hs'.cat
      have ho1 := Cat.one_cells (fun _ _ _ h => Has.one h) hs'.cat
      cases hdd : (dOf H v1 && dOfY H v2) with
      | true =>
        rw [hdd] at hK
        rw [Bool.and_eq_true] at hdd
        have hc1 := hs.cat
        have hc2 := hs'.cat
        rw [hdd.1] at hc1
        rw [hdd.2] at hc2
        exact goal_append htt r hH hn ho he hbb he' hfits hT hs.v hs.le hs'.v (hAown _ (fun _ h => by simp [h])) hs'.at_ hl1 hl2 ho1 (Z' := g.Z) (fs := fs ++ gs) (hc1.append hc2) (fun _ h => h) (fun _ h => .inl h)
          (fun b hb => ⟨fun hz => by obtain ⟨⟨id, _, h⟩, _⟩ := hin b hb; exact (r.sp id b h).1 hz, hin b hb⟩) hndd hK
      | false =>
        rw [hdd] at hK
        let Z' : Nat → Prop := fun b => g.Z b ∨ b ∈ fs ++ gs
        have hc1 := Cat.share (Z' := Z') (fun b h => .inl h) hs.cat (fun b h => .inr (by simp [h]))
        have hc2 := Cat.share (Z' := Z') (fun b h => .inl h) hs'.cat (fun b h => .inr (by simp [h]))
        exact goal_append htt r hH hn ho he hbb he' hfits hT hs.v hs.le hs'.v (hAown _ (fun _ h => by simp [h])) hs'.at_ hl1 hl2 ho1 (Z' := Z') (fs := []) (hc1.append hc2) (fun _ h => .inl h) (fun b h => h.imp id (hin b)) (by simp) (by simp) hK
end
end VM
