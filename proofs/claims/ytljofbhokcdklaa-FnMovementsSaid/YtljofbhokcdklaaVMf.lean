/- The operations that only compute or read. -/
import Derived.Test.YtljofbhokcdklaaVMe
set_option linter.unusedVariables false
set_option linter.unusedSimpArgs false
namespace VM
open Go

section
variable {P : Program} {F : Fx} {σ : St} {a : Act} {w : World} {g : Gh} {R : Type} {tt : List (Nat × TD)} {env : List Ct} {k : Nat} {o : Oper} {H : Nat → RE} {K : Upd → Option R} {y : R}

abbrev Goal (P : Program) (F : Fx) (σ : St) (a : Act) (w : World) (g : Gh) (o : Oper) {R : Type} (K : Upd → Option R) (y : R) : Prop := ∃ u, K u = some y ∧ OpPost P o a w (Post F σ a g u)

theorem goal_pure (r : Rl F σ a w g) {v : SV} {x : Value} (hK : K ⟨v, []⟩ = some y) (h : (execOp a.eval o).run P w = .ok (.value x) w) (hv : SVr g w σ.h v x) : Goal P F σ a w g o K y :=
  ⟨_, hK, OpPost.value h (pure_post r hv)⟩

theorem kindT_some {tt : List (Nat × TD)} {t : TypeId} {c : CK} (h : kindT tt t = some c) : ∃ b fs, look tt t = some (.val c b fs) := by
  unfold kindT at h
  split at h
  · rename_i c' b fs hl
    simp only [Option.some.injEq] at h
    subst h
    exact ⟨b, fs, hl⟩
  · cases h

theorem act_move (r : Rl F σ a w g) {x : Operand} (ho : o.op = .move x) (h : act tt env k o (o.op.operands.toList.map σ.ev) H K = some y) : Goal P F σ a w g o K y := by
  unfold act at h
  rw [ho] at h
  exact goal_pure r h (by unfold execOp; rw [ho]; rfl) (ev_sound r x)

theorem act_assign (r : Rl F σ a w g) {x : Operand} (ho : o.op = .assign x) (h : act tt env k o (o.op.operands.toList.map σ.ev) H K = some y) : Goal P F σ a w g o K y := by
  unfold act at h
  rw [ho] at h
  exact goal_pure r h (by unfold execOp; rw [ho]; rfl) (ev_sound r x)

theorem beq_dec {α : Type} [DecidableEq α] (a b : α) : (a == b) = decide (a = b) := by
  by_cases h : a = b <;> simp [h]

theorem beq_dec' {α : Type} [BEq α] [LawfulBEq α] [DecidableEq α] (a b : α) : (a == b) = decide (a = b) := by
  by_cases h : a = b <;> simp [h]

theorem part_cell {t : TypeId} {c : CK} (ht : TypeIs P t c) (hc : c.isAgg = false) (p : List Value) (u : Value) (r : List Value) : (part t (p ++ u :: r).toArray p.length).run P w = .ok u w := by
  simp [part, ht.agg, hc]

theorem eqC_sound {a : CK} {v1 v2 : CV} {p : Bool} (h : eqC a v1 v2 = some p) {u1 u2 : Value} (h1 : CVr g w σ.h v1 u1) (h2 : CVr g w σ.h v2 u2) {t : TypeId} {d : TypeDesc} (hd : keyD a = some d) (ht : P.underlying t = some d) (n : Nat) :
    (Op.equalIn (n + 1) t u1 u2).run P w = .ok p w := by
  cases a <;> cases v1 <;> cases v2 <;> simp only [eqC] at h <;> try cases h
  · split at h
    · next hk =>
      obtain ⟨rfl, rfl⟩ := hk
      simp only [Option.some.injEq] at h
      have h1 : u1 = _ := h1
      have h2 : u2 = _ := h2
      simp only [keyD, Option.some.injEq] at hd
      rw [h1, h2, run_equalIn_int w n t _ _ _ _ (by rw [ht, ← hd]), ← h, beq_dec]
    · cases h
  · have h1 : u1 = _ := h1
    have h2 : u2 = _ := h2
    simp only [keyD, Option.some.injEq] at hd
    rw [h1, h2, run_equalIn_bool' w n t _ _ (by rw [ht, ← hd]), beq_dec]
  · have h1 : u1 = _ := h1
    have h2 : u2 = _ := h2
    simp only [keyD, Option.some.injEq] at hd
    rw [h1, h2]
    unfold strV
    rw [run_equalIn_string w n t _ _ (by rw [ht, ← hd]), ByteArray.toList_eq, ByteArray.toList_eq]
    exact congrArg (fun b => Result.ok b w) (beq_dec' (α := List UInt8) _ _)

theorem eqCs_sound : ∀ {c : CK} {xs ys : List CV} {r : Bool}, eqCs c xs ys = some r → ∀ {us vs : List Value}, All2 (CVr g w σ.h) xs us → All2 (CVr g w σ.h) ys vs → ∀ {fs : List Field} {off : Nat}, EqF P c fs off →
    ∀ (p q : List Value) (n : Nat), p.length = off → q.length = off → (Op.eqFields (n + 1) (p ++ us).toArray (q ++ vs).toArray fs).run P w = .ok r w
  | .unit, [], [], r, h, us, vs, hu, hv, fs, off, hf, p, q, n, hp, hq => by
    simp only [eqCs, Option.some.injEq] at h
    match fs, hf with
    | [], _ => simp [Op.eqFields, h]
  | .pair a b, x :: xs, y :: ys, r, h, us, vs, hu, hv, fs, off, hf, p, q, n, hp, hq => by
    simp only [eqCs] at h
    split at h
    case h_2 => cases h
    rename_i p1 h1
    split at h
    case h_2 => cases h
    rename_i q1 h2
    simp only [Option.some.injEq] at h
    match us, hu, vs, hv, fs, hf with
    | u :: us, ⟨hu1, hu2⟩, v :: vs, ⟨hv1, hv2⟩, f :: fs, ⟨f1, f2, ⟨d, f3, f4⟩, f5, f6⟩ =>
      have hna : a.isAgg = false := by cases a <;> first | rfl | (simp [keyD] at f3)
      have e := eqC_sound h1 hu1 hv1 f3 f4 n
      have ih := eqCs_sound h2 hu2 hv2 f6 (p ++ [u]) (q ++ [v]) n (by simp [hp]) (by simp [hq])
      simp only [List.append_assoc, List.singleton_append] at ih
      subst hp
      simp only [Op.eqFields, f1, ne_eq, not_false_eq_true, if_true, f2, Sem.run_bind, part_cell f5 hna, Result.andThen_ok]
      rw [← hq, part_cell f5 hna]
      simp only [Result.andThen_ok, e]
      cases p1 with
      | false => simp [← h]
      | true => simp only [Bool.not_true, Bool.false_eq_true, if_false]; rw [ih, ← h]; rfl
  | .unit, [], _ :: _, r, h, _, _, _, _, _, _, _, _, _, _, _, _ => by cases h
  | .unit, _ :: _, _, r, h, _, _, _, _, _, _, _, _, _, _, _, _ => by cases h
  | .pair _ _, [], _, r, h, _, _, _, _, _, _, _, _, _, _, _, _ => by cases h
  | .pair _ _, _ :: _, [], r, h, _, _, _, _, _, _, _, _, _, _, _, _ => by cases h
  | .int _, _, _, r, h, _, _, _, _, _, _, _, _, _, _, _, _ => by simp [eqCs] at h
  | .bool, _, _, r, h, _, _, _, _, _, _, _, _, _, _, _, _ => by simp [eqCs] at h
  | .str, _, _, r, h, _, _, _, _, _, _, _, _, _, _, _, _ => by simp [eqCs] at h
  | .sl _, _, _, r, h, _, _, _, _, _, _, _, _, _, _, _, _ => by simp [eqCs] at h

theorem act_binOp (htt : TTok P tt) (r : Rl F σ a w g) {op : BinOp} {t t' : TypeId} {px py : Operand} (ho : o.op = .binOp op t px py t') (h : act tt env k o (o.op.operands.toList.map σ.ev) H K = some y) : Goal P F σ a w g o K y := by
  have hRl := r
  unfold act at h
  rw [ho] at h
  simp only [Op.operands, List.map_cons, List.map_nil] at h
  have hx := ev_sound r px
  have hy := ev_sound r py
  cases ex : σ.ev px with
  | one x =>
    cases ey : σ.ev py with
    | one z =>
      rw [ex, ey] at h
      rw [ex] at hx
      rw [ey] at hy
      dsimp only at h
      obtain ⟨cv, v, h1, h2, h3⟩ := binV_sound (P := P) (w := w) (g := g) (σ := σ) (t := t) h (fun hb => by
        split at hb
        · rename_i hk
          obtain ⟨b, fs, hl⟩ := kindT_some hk
          obtain ⟨i, d, k1, k2, k3, k4, k5⟩ := (htt.is _ _ _ _ hl).ex
          exact htt.bool _ _ _ hl
        · cases hb) ho hx hy
      exact goal_pure r h1 h2 h3
    | _ => rw [ex, ey] at h; cases h
  | agg xs =>
    cases ey : σ.ev py with
    | agg ys =>
      rw [ex, ey] at h
      rw [ex] at hx
      rw [ey] at hy
      dsimp only at h
      split at h
      case h_2 => cases h
      rename_i c hk
      obtain ⟨hc, h⟩ := cond_some h
      split at h
      case h_2 => cases h
      rename_i r hr
      obtain ⟨b, fs, hl⟩ := kindT_some hk
      obtain ⟨Fs, u1, u2, u3, u4⟩ := htt.eqs _ _ _ _ hl hc
      obtain ⟨us, hus, hall⟩ := hx
      obtain ⟨vs, hvs, hall2⟩ := hy
      have hfo : P.fieldsOf t = Fs.toArray := by simp [Program.fieldsOf, u1]
      have key : (Op.equalIn 10000 t (.agg us.toArray) (.agg vs.toArray)).run P w = .ok r w := by
        rw [show (10000 : Nat) = 9999 + 1 from rfl, run_equalIn_struct w 9999 t _ _ (by rw [hfo]; exact u1) u2, hfo]
        have := eqCs_sound hr hall hall2 u4 [] [] 9998 rfl rfl
        simpa using this
      cases op with
      | eql =>
        have run : (execOp a.eval o).run P w = .ok (.value (.bool r)) w := by
          unfold execOp
          rw [ho]
          simp [hus, hvs, run_eqGuard_agg w _ t _ _ _ _ u3, run_eql_struct, key, Result.andThen]
        exact goal_pure hRl h run rfl
      | neq =>
        have run : (execOp a.eval o).run P w = .ok (.value (.bool (!r))) w := by
          unfold execOp
          rw [ho]
          simp [hus, hvs, run_eqGuard_agg w _ t _ _ _ _ u3, run_neq_struct, key, Result.andThen]
        exact goal_pure hRl h run rfl
      | _ => cases h
    | _ => rw [ex, ey] at h; cases h
  | tup xs => rw [ex] at h; cases σ.ev py <;> cases h

theorem varAt_sound (r : Rl F σ a w g) (hH : HOk H σ.h o.dst) {id inc : Nat} {cs : List CV} (h : varAt H id inc = some cs) : H id = σ.h id ∧ inc = (σ.h id).inc ∧ (σ.h id).c = .var cs := by
  unfold varAt at h
  cases hr : H id with
  | mk i v c =>
    rw [hr] at h
    cases c with
    | var cs' =>
      simp only at h
      obtain ⟨hi, h⟩ := cond_some h
      have hi := Nat.eq_of_beq_eq_true hi
      simp only [Option.some.injEq] at h
      subst h
      have := hH.c id (by rw [hr]; simp)
      rw [hr] at this
      exact ⟨this, by rw [← this]; exact hi.symm, by rw [← this]⟩
    | none => cases h
    | row => cases h
    | map => cases h

/-- A variable's block. -/
theorem Rl.var (r : Rl F σ a w g) {id : Nat} {cs : List CV} (hc : (σ.h id).c = .var cs) :
    ∃ b us ty, g.loc id = .pointer (some ⟨b, 0, none⟩) ∧ g.fp id = [b] ∧ w.heap[b]? = some (.cells us.toArray ty (0, 0)) ∧ All2 (CVr g w σ.h) cs us := by
  have := r.rt id
  unfold RR at this
  rw [hc] at this
  exact this

theorem act_pick (r : Rl F σ a w g) {c p q : Operand} (ho : o.op = .pick c p q) (h : act tt env k o (o.op.operands.toList.map σ.ev) H K = some y) : Goal P F σ a w g o K y := by
  unfold act at h
  rw [ho] at h
  simp only [Op.operands, List.map_cons, List.map_nil] at h
  have hx := ev_sound r c
  have run : ∀ b, a.eval c = .bool b → (execOp a.eval o).run P w = .ok (.value (if b = true then a.eval p else a.eval q)) w := by
    intro b hb
    unfold execOp
    rw [ho]
    simp [hb, asBool]
  cases ex : σ.ev c with
  | one x =>
    rw [ex] at h hx
    cases x <;> dsimp only at h <;> try cases h
    rename_i b
    have hb : a.eval c = .bool b := hx
    have hr := run b hb
    cases b with
    | true => exact goal_pure r h hr (ev_sound r p)
    | false => exact goal_pure r h hr (ev_sound r q)
  | _ => rw [ex] at h; cases h

theorem ptr_some (r : Rl F σ a w g) (hH : HOk H σ.h o.dst) {id inc ver : Nat} {p : Path} {i : Int} {off : Nat} {c : CK} {R : Row1} (h : rowAt H id inc ver p = some R) {u : Value} (hu : CVr g w σ.h (.ptr id inc ver p i off c) u) :
    ∃ b oo, ∃ (len cap : Nat), u = .pointer (some ⟨b, oo + (i.toNat * R.e.size + off), none⟩) ∧ 0 ≤ i ∧ i < (len : Int) ∧
      ∀ d e xs, (σ.h id).c = .row d e xs → RowAt w e (g.loc id) p (.slice (some ⟨b, oo, none⟩) len cap) := by
  obtain ⟨k1, k2, k3, e0, xs0, k4, k5⟩ := rowAt_sound r hH h
  obtain ⟨h1, h2⟩ := hu
  obtain ⟨e', b, oo, len, cap, m1, m2, m3, m4, m5⟩ := h2 _ _ _ k4 ⟨k2.symm, k3⟩
  rw [kindRow_of_get k5, Option.some.injEq] at m1
  subst m1
  exact ⟨b, oo, len, cap, m5, m3, m4, fun d e xs hc => by rw [k4] at hc; cases hc; exact m2⟩

theorem act_nilCheck (r : Rl F σ a w g) (hH : HOk H σ.h o.dst) {x : Operand} (ho : o.op = .nilCheck x) (h : act tt env k o (o.op.operands.toList.map σ.ev) H K = some y) : Goal P F σ a w g o K y := by
  unfold act at h
  rw [ho] at h
  simp only [Op.operands, List.map_cons, List.map_nil] at h
  have hx := ev_sound r x
  have run : ∀ ad, a.eval x = .pointer (some ad) → (execOp a.eval o).run P w = .ok (.value (.pointer (some ad))) w := by
    intro ad hb
    unfold execOp
    rw [ho]
    simp [hb]
  cases ex : σ.ev x with
  | one v =>
    rw [ex] at h hx
    cases v <;> dsimp only at h <;> try cases h
    case rp c z =>
      obtain ⟨b, off, us, h1, h2⟩ := hx
      exact goal_pure r h (run _ h1) (h1 ▸ ⟨b, off, us, h1, h2⟩)
    case fn f =>
      have hf : a.eval x = .func (.func f) #[] #[] := hx
      exact goal_pure r h (by unfold execOp; rw [ho]; simp [hf]) (show SVr g w σ.h (.one (.fn f)) (.func (.func f) #[] #[]) from rfl)
    case vptr id inc off =>
      cases hv : varAt H id inc with
      | none => rw [hv] at h; cases h
      | some cs =>
        rw [hv] at h
        obtain ⟨k1, k2, k3⟩ := varAt_sound r hH hv
        obtain ⟨b, h1, h2⟩ := hx.2 k2 cs k3
        exact goal_pure r h (run _ h2) (h2 ▸ hx)
    case ptr id inc ver p i off c =>
      cases hv : rowAt H id inc ver p with
      | none => rw [hv] at h; cases h
      | some R =>
        rw [hv] at h
        obtain ⟨b, oo, len, cap, h1, _⟩ := ptr_some (c := c) r hH hv hx
        exact goal_pure r h (run _ h1) (h1 ▸ hx)
  | _ => rw [ex] at h; cases h

theorem act_not (r : Rl F σ a w g) {t : TypeId} {x : Operand} (ho : o.op = .unOp .not t x) (h : act tt env k o (o.op.operands.toList.map σ.ev) H K = some y) : Goal P F σ a w g o K y := by
  unfold act at h
  rw [ho] at h
  simp only [Op.operands, List.map_cons, List.map_nil] at h
  have hx := ev_sound r x
  cases ex : σ.ev x with
  | one v =>
    rw [ex] at h hx
    cases v <;> dsimp only at h <;> try cases h
    rename_i b
    have hb : a.eval x = .bool b := hx
    exact goal_pure r h (by unfold execOp; rw [ho]; simp [hb, Op.unary]) (show SVr g w σ.h (.one (.bool !b)) (.bool !b) from rfl)
  | _ => rw [ex] at h; cases h

theorem act_neg (r : Rl F σ a w g) {t : TypeId} {x : Operand} (ho : o.op = .unOp .neg t x) (h : act tt env k o (o.op.operands.toList.map σ.ev) H K = some y) : Goal P F σ a w g o K y := by
  unfold act at h
  rw [ho] at h
  simp only [Op.operands, List.map_cons, List.map_nil] at h
  have hx := ev_sound r x
  cases ex : σ.ev x with
  | one v =>
    rw [ex] at h hx
    cases v <;> dsimp only at h <;> try cases h
    rename_i k n
    have hb : a.eval x = .int k n := hx
    exact goal_pure r h (by unfold execOp; rw [ho]; simp [hb, Op.unary, Op.intArith]) (show SVr g w σ.h (.one (.int k _)) (.int k (k.wrap (0 - n))) from rfl)
  | _ => rw [ex] at h; cases h

theorem act_extract (r : Rl F σ a w g) {x : Operand} {i : Nat} (ho : o.op = .extract x i) (h : act tt env k o (o.op.operands.toList.map σ.ev) H K = some y) : Goal P F σ a w g o K y := by
  unfold act at h
  rw [ho] at h
  simp only [Op.operands, List.map_cons, List.map_nil] at h
  have hx := ev_sound r x
  cases ex : σ.ev x with
  | tup xs =>
    rw [ex] at h hx
    obtain ⟨us, hu, hall⟩ := hx
    dsimp only at h
    cases hi : xs[i]? with
    | none => rw [hi] at h; cases h
    | some z =>
      rw [hi] at h
      obtain ⟨u, hu', hz⟩ := hall.get hi
      have run : (execOp a.eval o).run P w = .ok (.value u) w := by
        unfold execOp
        rw [ho]
        simp [hu, Instr.extract, hu']
      obtain ⟨b, cs⟩ := z
      cases b with
      | true =>
        dsimp only at h
        simp only [if_true] at hz
        exact goal_pure r h run hz
      | false =>
        simp only [Bool.false_eq_true, if_false] at hz
        obtain ⟨v, rfl, hv⟩ := hz
        exact goal_pure r h run hv
  | one => rw [ex] at h; cases h
  | agg => rw [ex] at h; cases h

theorem info_underlying (P : Program) (t : TypeId) : ∀ d, P.underlying t = some d → True := fun _ _ => trivial

theorem act_fieldAddr (htt : TTok P tt) (r : Rl F σ a w g) (hH : HOk H σ.h o.dst) {t : TypeId} {x : Operand} {f : Nat} (ho : o.op = .fieldAddr t x f) (h : act tt env k o (o.op.operands.toList.map σ.ev) H K = some y) : Goal P F σ a w g o K y := by
  unfold act at h
  rw [ho] at h
  simp only [Op.operands, List.map_cons, List.map_nil] at h
  have hx := ev_sound r x
  cases ex : σ.ev x with
  | one v =>
    rw [ex] at h hx
    dsimp only at h
    cases hf : fieldT tt t f with
    | none => rw [hf] at h; cases h
    | some q =>
      obtain ⟨off, d⟩ := q
      rw [hf] at h
      dsimp only at h
      have hl : ∃ c b fs, look tt t = some (.val c b fs) ∧ fs[f]? = some (off, d) := by
        unfold fieldT at hf
        split at hf
        · rename_i c b fs hl; exact ⟨c, b, fs, hl, hf⟩
        · cases hf
      obtain ⟨c, b, fs, hl, hfs⟩ := hl
      obtain ⟨Fs, fl, u1, u2, u3, u4, u5, u6⟩ := htt.fld _ _ _ _ _ _ _ hl hfs
      have run : ∀ bl oo, a.eval x = .pointer (some ⟨bl, oo, none⟩) → (execOp a.eval o).run P w = .ok (.value (.pointer (some ⟨bl, oo + off, none⟩))) w := by
        intro bl oo hb
        unfold execOp
        rw [ho]
        have hne : d.size ≠ 0 := by omega
        simp [hb, Instr.fieldAt, run_underlying u1, u2, Instr.sureAddr, fieldPlace, u4.size, hne, u3, Addr.add_lit]
      cases v <;> dsimp only at h <;> try cases h
      case vptr id inc off' =>
        cases hv : varAt H id inc with
        | none => rw [hv] at h; cases h
        | some cs =>
          rw [hv] at h
          obtain ⟨k1, k2, k3⟩ := varAt_sound r hH hv
          obtain ⟨bl, h1, h2⟩ := hx.2 k2 cs k3
          refine goal_pure r h (run _ _ h2) ⟨⟨hx.1.1, rfl⟩, fun _ cs' hc' => ⟨bl, h1, ?_⟩⟩
          rfl
      case rp c' z =>
        obtain ⟨bl, oo, us, h1, h2, h3, h4⟩ := hx
        cases hL : c'.lens off d with
        | none => rw [hL] at h; cases h
        | some L =>
          rw [hL] at h
          obtain ⟨w1, wm, w2, f1, fm, f2, rfl, n1, n2, n3, _⟩ := CK.lens_spec hL h4
          have hfm : fm = [] := Has.fp_false n3
          subst hfm
          have hc := (CellsAt.append.1 (CellsAt.append.1 h3).2).1
          rw [n1] at hc
          exact goal_pure r h (run _ _ h1) ⟨bl, oo + off, wm, rfl, h2, hc, n3⟩
      case ptr id inc ver p j off' c' =>
        cases hv : rowAt H id inc ver p with
        | none => rw [hv] at h; cases h
        | some R =>
          rw [hv] at h
          obtain ⟨bl, oo, len, cap, h1, h2, h3, h4⟩ := ptr_some (c := c') r hH hv hx
          obtain ⟨k1, k2, k3, e0, xs0, k4, k5⟩ := rowAt_sound r hH hv
          refine goal_pure r h (run _ _ h1) ⟨⟨hx.1.1, hx.1.2.1, rfl⟩, fun d' e' xs' hc' _ => ⟨R.e, bl, oo, len, cap, ?_, h4 d' e' xs' hc', h2, h3, ?_⟩⟩
          · rw [k4] at hc'; cases hc'; exact kindRow_of_get k5
          · rw [show oo + (j.toNat * R.e.size + off') + off = oo + (j.toNat * R.e.size + (off' + off)) by omega]
  | _ => rw [ex] at h; cases h

theorem act_index (r : Rl F σ a w g) (htt : TTok P tt) {t : TypeId} {x i : Operand} (ho : o.op = .index t x i) (h : act tt env k o (o.op.operands.toList.map σ.ev) H K = some y) : Goal P F σ a w g o K y := by
  unfold act at h
  rw [ho] at h
  simp only [Op.operands, List.map_cons, List.map_nil] at h
  have hx := ev_sound r x
  have hi := ev_sound r i
  cases ex : σ.ev x with
  | one v =>
    cases ei : σ.ev i with
    | one u =>
      rw [ex] at h hx
      rw [ei] at h hi
      cases v <;> try cases h
      rename_i s
      cases u <;> dsimp only at h <;> try cases h
      rename_i kk n
      have hs : a.eval x = strV s := hx
      have hn : a.eval i = .int kk n := hi
      cases hk : kindT tt t with
      | none => rw [hk] at h; cases h
      | some c =>
        rw [hk] at h
        have hc : c = .str ∧ grd (inb s n) (K ⟨.one (.int .u8 ((rdL s n 0).toNat : Int)), []⟩) = some y := by
          cases c <;> first | exact ⟨rfl, h⟩ | cases h
        clear h
        obtain ⟨rfl, h⟩ := hc
        obtain ⟨b, fs, hl⟩ := kindT_some hk
        have ht := htt.str _ _ _ hl
        obtain ⟨hb, h⟩ := grd_some h
        simp only [inb, Bool.and_eq_true, decide_eq_true_eq] at hb
        obtain ⟨n, rfl⟩ := Int.eq_ofNat_of_zero_le hb.1
        have hlt : n < s.length := by omega
        refine goal_pure r h (x := .int .u8 ((rdL s (n : Int) 0).toNat : Int)) ?_ rfl
        unfold execOp
        rw [ho]
        have hget : (ByteArray.mk s.toArray)[n]? = some s[n] := by
          rw [getElem?_pos _ _ (by simpa [ByteArray.size] using hlt)]
          rfl
        simp [hs, hn, Instr.index, asIntOf, run_underlying ht, strV, rdL, hlt, List.getD, hget]
    | _ => rw [ex, ei] at h; cases v <;> cases h
  | _ => rw [ex] at h; cases σ.ev i <;> cases h
end
end VM
