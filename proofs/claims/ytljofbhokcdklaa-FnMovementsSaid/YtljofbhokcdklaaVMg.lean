/- Operations on slices that only read; loads. -/
import Derived.Test.YtljofbhokcdklaaVMf
set_option linter.unusedVariables false
set_option linter.unusedSimpArgs false
namespace VM
open Go

section
variable {P : Program} {F : Fx} {σ : St} {a : Act} {w : World} {g : Gh} {R : Type} {tt : List (Nat × TD)} {env : List Ct} {k : Nat} {o : Oper} {H : Nat → RE} {K : Upd → Option R} {y : R}


theorem size_of_not_agg {c : CK} (h : c.isAgg = false) : c.size = 1 := by cases c <;> simp [CK.isAgg] at h <;> rfl

theorem toSV_sound {g : Gh} {w : World} {h : Nat → RE} {c : CK} {cs : List CV} {us : List Value} (ha : All2 (CVr g w h) cs us) (hl : cs.length = c.size) : SVr g w h (toSV c cs) (valV c us) := by
  unfold toSV valV
  cases hc : c.isAgg with
  | true => exact ⟨us, rfl, ha⟩
  | false =>
    have h1 := size_of_not_agg hc
    rw [h1] at hl
    match cs, us, ha, hl with
    | [v], [u], ⟨h1, _⟩, _ => exact h1
    | [v], [], h, _ => exact h.elim
    | [v], _ :: _ :: _, ⟨_, h⟩, _ => exact h.elim

theorem run_loadVar {P : Program} {t : TypeId} {c : CK} (ht : TypeIs P t c) {w : World} {b off : Nat} {us : List Value} (hc : CellsAt w b off us) (hl : us.length = c.size) :
    (loadVar t ⟨b, off, none⟩).run P w = .ok (valV c us) w := by
  unfold loadVar valV
  simp only [Sem.run_bind, ht.agg, Result.andThen_ok]
  cases ha : c.isAgg with
  | true =>
    simp only [if_true, Sem.run_bind, ht.size, Result.andThen_ok, cond_true]
    rw [← hl, run_loadCells_list w ⟨b, off, none⟩ us (fun j v hj => by rw [Addr.add_lit]; exact hc j v hj)]
    rfl
  | false =>
    have h1 := size_of_not_agg ha
    rw [h1] at hl
    match us, hl with
    | [u], _ =>
      have := hc 0 u rfl
      rw [Nat.add_zero] at this
      simp [this]

theorem Cat.ints {Z : Nat → Prop} {w : World} {d : Bool} {k : IntKind} : ∀ {xs : List Int} {vs : List Value} {fs : List Nat}, Cat (Has Z w d (.int k)) xs vs fs → vs = xs.map (Value.int k)
  | [], _, _, ⟨h, _⟩ => h
  | x :: xs, _, _, ⟨u1, u2, f1, f2, h, _, h1, h2⟩ => by rw [h, h1.1, Cat.ints h2]; rfl

theorem foldl_push : ∀ (xs : List Int) (s : ByteArray), xs.foldl (fun r n => r.push (UInt8.ofNat n.toNat)) s = ⟨(s.data.toList ++ bytesOf xs).toArray⟩
  | [], s => by simp [bytesOf]
  | x :: xs, s => by
    rw [List.foldl_cons, foldl_push xs]
    simp [bytesOf, ByteArray.push]

theorem elemT_some {tt : List (Nat × TD)} {t : TypeId} {e : CK} (h : elemT tt t = some e) : ∃ b fs, look tt t = some (.val (.sl e) b fs) := by
  unfold elemT at h
  split at h
  · rename_i c' b fs hl
    simp only [Option.some.injEq] at h
    subst h
    exact ⟨b, fs, hl⟩
  · cases h

/-- The row behind a reference: its value. -/
theorem row_some (r : Rl F σ a w g) (hH : HOk H σ.h o.dst) {id inc ver : Nat} {p : Path} {R : Row1} (h : rowAt H id inc ver p = some R) {u : Value} (hu : CVr g w σ.h (.row id inc ver p) u) :
    (∃ f1 fm f2, g.fp id = f1 ++ (fm ++ f2) ∧ Row g.Z w R.d R.e R.xs u fm) ∧ ∀ d e xs, (σ.h id).c = .row d e xs → RowAt w e (g.loc id) p u ∧ kindRow e p = some R.e := by
  obtain ⟨k1, k2, k3, e0, xs0, k4, k5⟩ := rowAt_sound r hH h
  have hat : ∀ d e xs, (σ.h id).c = .row d e xs → RowAt w e (g.loc id) p u := fun d e xs hc => hu.2 d e xs hc ⟨k2.symm, by rw [k4] at hc; cases hc; exact k3⟩
  obtain ⟨f1, fm, f2, m1, m2, _⟩ := r.row hH h hat
  exact ⟨⟨f1, fm, f2, m1, m2⟩, fun d e xs hc => ⟨hat d e xs hc, by rw [k4] at hc; cases hc; exact kindRow_of_get k5⟩⟩

theorem lenV_sound (r : Rl F σ a w g) (hH : HOk H σ.h o.dst) {v : CV} {n : Int} (h : lenV H v = some n) {u : Value} (hu : CVr g w σ.h v u) :
    (∃ s, v = .str s ∧ u = strV s ∧ n = s.length) ∨ ((∀ s, v ≠ .str s) ∧ ∃ A l cap, u = .slice A l cap ∧ n = (l : Int) ∧ l ≤ cap) := by
  cases v with
  | str s => simp only [lenV, Option.some.injEq] at h; exact .inl ⟨s, rfl, hu, h.symm⟩
  | nil => simp only [lenV, Option.some.injEq] at h; exact .inr ⟨by simp, none, 0, 0, hu, by rw [← h]; rfl, Nat.le_refl _⟩
  | sl e xs =>
    simp only [lenV, Option.some.injEq] at h
    obtain ⟨v, hv, hh⟩ := hu
    simp only [List.cons.injEq, and_true] at hv
    subst hv
    rcases hh with ⟨hd, _⟩ | ⟨_, _, A, cap, rfl, hc, _⟩
    · cases hd
    · exact .inr ⟨by simp, A, xs.length, cap, rfl, h.symm, hc⟩
  | row id inc ver p =>
    simp only [lenV] at h
    cases hv : rowAt H id inc ver p with
    | none => rw [hv] at h; cases h
    | some R =>
      rw [hv] at h
      simp only [Option.some.injEq] at h
      obtain ⟨⟨f1, fm, f2, _, A, cap, rfl, hc, _⟩, _⟩ := row_some r hH hv hu
      exact .inr ⟨by simp, A, _, cap, rfl, h.symm, hc⟩
  | rsub id inc ver p lo hi =>
    simp only [lenV] at h
    cases hv : rowAt H id inc ver p with
    | none => rw [hv] at h; cases h
    | some R =>
      rw [hv] at h
      simp only [Option.some.injEq] at h
      obtain ⟨k1, k2, k3, e0, xs0, k4, k5⟩ := rowAt_sound r hH hv
      obtain ⟨v', e', n1, n2, s1, s2, A, len, cap, s3, s4, rfl⟩ := hu.2 _ _ _ k4 ⟨k2.symm, k3⟩
      obtain ⟨f1, fm, f2, m1, ⟨A', cap', hv', hc', _⟩, _⟩ := r.row hH hv (u := v') (fun d e xs hc => by rw [k4] at hc; cases hc; exact n2)
      rw [hv'] at s3
      cases s3
      exact .inr ⟨by simp, _, _, _, rfl, by omega, by omega⟩
  | undef | int | bool | rp | fn | vptr | ptr | map => simp [lenV] at h

theorem act_len (htt : TTok P tt) (r : Rl F σ a w g) (hH : HOk H σ.h o.dst) {as : Array Operand} {ts : Array TypeId} (ho : o.op = .call { callee := .builtin .len, args := as, argTypes := ts })
    (h : act tt env k o (o.op.operands.toList.map σ.ev) H K = some y) : Goal P F σ a w g o K y := by
  unfold act at h
  rw [ho] at h
  simp only [Op.operands, Call.operands, Array.empty_append] at h
  obtain ⟨l, rfl⟩ : ∃ l : List Operand, as = l.toArray := ⟨as.toList, by simp⟩
  match l, h with
  | [], h => cases h
  | z :: z' :: l', h =>
    simp only [List.map_cons] at h
    generalize σ.ev z = v1 at h
    generalize σ.ev z' = v2 at h
    generalize List.map σ.ev l' = l2 at h
    rcases v1 with v1 | v1 | v1 <;> rcases v2 with v2 | v2 | v2 <;> rcases l2 with _ | ⟨v3, l3⟩ <;> first | (cases h; done) | (cases v1 <;> cases v2 <;> cases h; done) | skip
  | [x], h =>
    simp only [List.map_cons, List.map_nil] at h
    have hx := ev_sound r x
    cases ex : σ.ev x with
    | one v =>
      rw [ex] at h hx
      dsimp only at h
      cases hl : lenV H v with
      | none => rw [hl] at h; cases h
      | some n =>
        rw [hl] at h
        dsimp only at h
        obtain ⟨ht, h⟩ := cond_some h
        refine goal_pure r h (x := .int .i64 n) ?_ rfl
        cases hts : ts[0]? with
        | none => rw [hts] at ht; simp [lenT] at ht
        | some t =>
          rw [hts] at ht
          simp only [Option.bind_some] at ht
          cases hk : kindT tt t with
          | none => rw [hk] at ht; simp [lenT] at ht
          | some c =>
            rw [hk] at ht
            obtain ⟨b, fs, hlo⟩ := kindT_some hk
            have run : (Builtin.len_ ts o.type #[a.eval x]).run P w = .ok (.int .i64 n) w → (execOp a.eval o).run P w = .ok (.value (.int .i64 n)) w := by
              intro hr
              unfold execOp
              rw [ho]
              simp [resolve, invoke, builtin, hr]
            apply run
            rcases lenV_sound r hH hl hx with ⟨s, rfl, hu, rfl⟩ | ⟨hns, A, l, cap, hu, rfl, _⟩
            · cases c <;> simp [lenT] at ht
              have hz : (ByteArray.mk s.toArray).size = s.length := by simp [ByteArray.size]
              simp [Builtin.len_, hts, hu, run_underlying (htt.str _ _ _ hlo), strV, goInt, hz]
            · cases c with
              | sl e =>
                obtain ⟨et, hu', _⟩ := htt.sl _ _ _ _ hlo
                simp [Builtin.len_, hts, hu, run_underlying hu', goInt]
              | str => cases v <;> simp [lenT] at ht; exact absurd rfl (hns _)
              | _ => simp [lenT] at ht
    | _ => rw [ex] at h; cases h

theorem act_indexAddr (htt : TTok P tt) (r : Rl F σ a w g) (hH : HOk H σ.h o.dst) {t : TypeId} {x i : Operand} (ho : o.op = .indexAddr t x i) (h : act tt env k o (o.op.operands.toList.map σ.ev) H K = some y) : Goal P F σ a w g o K y := by
  unfold act at h
  rw [ho] at h
  simp only [Op.operands, List.map_cons, List.map_nil] at h
  have hx := ev_sound r x
  have hi := ev_sound r i
  cases ex : σ.ev x with
  | one v =>
    cases ei : σ.ev i with
    | one u =>
      rw [ex, ei] at h
      rw [ex] at hx
      rw [ei] at hi
      cases u <;> try cases h
      rename_i kk n
      have hn : a.eval i = .int kk n := hi
      dsimp only at h
      cases hk : elemT tt t with
      | none => rw [hk] at h; cases h
      | some e' =>
        rw [hk] at h
        dsimp only at h
        obtain ⟨b, fs, hlo⟩ := elemT_some hk
        obtain ⟨et, hu', het, hpos, _⟩ := htt.sl _ _ _ _ hlo
        have run : ∀ b off len cap, a.eval x = .slice (some ⟨b, off, none⟩) len cap → 0 ≤ n → n < (len : Int) →
            (execOp a.eval o).run P w = .ok (.value (.pointer (some ⟨b, off + n.toNat * e'.size, none⟩))) w := by
          intro b off len cap hb h0 h1
          unfold execOp
          rw [ho]
          simp [hb, hn, Instr.indexAt, asIntOf, run_underlying hu', h0, h1, het.size, Addr.add_lit]
        cases v <;> dsimp only at h <;> try cases h
        case sl e xs =>
          split at h
          · rename_i he
            subst he
            obtain ⟨hb, h⟩ := grd_some h
            simp only [inb, Bool.and_eq_true, decide_eq_true_eq] at hb
            obtain ⟨v, hv, hh⟩ := hx
            simp only [List.cons.injEq, and_true] at hv
            rcases hh with ⟨hd, _⟩ | ⟨_, _, A, cap, rfl, hc, hh⟩
            · cases hd
            · rcases hh with hh | ⟨bl, off, vs, fs', rfl, c1, c2, c3⟩
              · rw [hh] at hb; simp at hb; omega
              · obtain ⟨m, rfl⟩ := Int.eq_ofNat_of_zero_le hb.1
                have hm : m < xs.length := by omega
                rw [list_at xs m hm e.dflt] at c2
                obtain ⟨u1, u2, f1, f2, rfl, rfl, d1, d2⟩ := Cat.split c2
                obtain ⟨u2, u3, f2, f3, rfl, rfl, d2, d3⟩ := Cat.split d2
                have hl1 : u1.length = m * e.size := by rw [Cat.len (fun _ _ _ h => Has.len h) d1, List.length_take, Nat.min_eq_left (by omega)]
                have hcell := (CellsAt.append.1 (CellsAt.append.1 c1).2).1
                rw [hl1] at hcell
                have hd2 := Cat.of_one d2
                have hf2 := Has.fp_false hd2
                subst hf2
                refine goal_pure r h (run _ _ _ _ hv hb.1 hb.2) ⟨bl, off + m * e.size, u2, ?_, c3, hcell, ?_⟩
                · simp
                · simpa [rdL] using hd2
          · cases h
        case row id inc ver p =>
          cases hv : rowAt H id inc ver p with
          | none => rw [hv] at h; cases h
          | some R =>
            rw [hv] at h
            dsimp only at h
            split at h
            · rename_i he
              obtain ⟨hb, h⟩ := grd_some h
              simp only [inb, Bool.and_eq_true, decide_eq_true_eq] at hb
              obtain ⟨k1, k2, k3, _⟩ := rowAt_sound r hH hv
              obtain ⟨⟨f1, fm, f2, _, A, cap, hA, hc, hh⟩, hat⟩ := row_some r hH hv hx
              rcases hh with ⟨hh, _⟩ | ⟨bl, off, vs, fs', rfl, c1, c2, c3, c4⟩
              · rw [hh] at hb; simp at hb; omega
              · refine goal_pure r h (run _ _ _ _ hA hb.1 hb.2) ⟨⟨hx.1.1, fun _ => ?_, rfl⟩, fun d e xs hc' _ => ⟨R.e, bl, off, R.xs.length, cap, (hat d e xs hc').2, by rw [← hA]; exact (hat d e xs hc').1, hb.1, hb.2, ?_⟩⟩
                · rw [k1]; exact Nat.le_refl _
                · rw [he, Nat.add_zero]
            · cases h
    | _ => rw [ex, ei] at h; cases v <;> cases h
  | _ => rw [ex] at h; cases σ.ev i <;> cases h

theorem act_min (r : Rl F σ a w g) {as : Array Operand} {ts : Array TypeId} (ho : o.op = .call { callee := .builtin .min, args := as, argTypes := ts })
    (h : act tt env k o (o.op.operands.toList.map σ.ev) H K = some y) : Goal P F σ a w g o K y := by
  unfold act at h
  rw [ho] at h
  simp only [Op.operands, Call.operands, Array.empty_append] at h
  obtain ⟨l, rfl⟩ : ∃ l : List Operand, as = l.toArray := ⟨as.toList, by simp⟩
  match l, h with
  | [], h => cases h
  | [z], h => simp only [List.map_cons, List.map_nil] at h; generalize σ.ev z = v1 at h; rcases v1 with v1 | v1 | v1 <;> first | (cases h; done) | (cases v1 <;> cases h; done)
  | z :: z' :: z2 :: l', h =>
    simp only [List.map_cons] at h
    generalize σ.ev z = v1 at h
    generalize σ.ev z' = v2 at h
    rcases v1 with v1 | v1 | v1 <;> rcases v2 with v2 | v2 | v2 <;> first | (cases h; done) | (cases v1 <;> cases v2 <;> cases h; done)
  | [p, q], h =>
    simp only [List.map_cons, List.map_nil] at h
    have hp := ev_sound r p
    have hq := ev_sound r q
    generalize σ.ev p = v1 at h hp
    generalize σ.ev q = v2 at h hq
    rcases v1 with v1 | v1 | v1 <;> rcases v2 with v2 | v2 | v2 <;> try (cases h; done)
    · cases v1 <;> cases v2 <;> try (cases h; done)
      rename_i k1 x k2 z
      have hp : a.eval p = .int k1 x := hp
      have hq : a.eval q = .int k2 z := hq
      dsimp only at h
      split at h
      · refine goal_pure r h (x := .int k1 (mnI x z)) ?_ rfl
        unfold execOp
        rw [ho]
        simp [resolve, invoke, builtin, Builtin.min_, Builtin.min2, hp, hq, mnI]
      · cases h
    all_goals (cases v1 <;> cases h)

theorem act_max (r : Rl F σ a w g) {as : Array Operand} {ts : Array TypeId} (ho : o.op = .call { callee := .builtin .max, args := as, argTypes := ts })
    (h : act tt env k o (o.op.operands.toList.map σ.ev) H K = some y) : Goal P F σ a w g o K y := by
  unfold act at h
  rw [ho] at h
  simp only [Op.operands, Call.operands, Array.empty_append] at h
  obtain ⟨l, rfl⟩ : ∃ l : List Operand, as = l.toArray := ⟨as.toList, by simp⟩
  match l, h with
  | [], h => cases h
  | [z], h => simp only [List.map_cons, List.map_nil] at h; generalize σ.ev z = v1 at h; rcases v1 with v1 | v1 | v1 <;> first | (cases h; done) | (cases v1 <;> cases h; done)
  | z :: z' :: z2 :: l', h =>
    simp only [List.map_cons] at h
    generalize σ.ev z = v1 at h
    generalize σ.ev z' = v2 at h
    rcases v1 with v1 | v1 | v1 <;> rcases v2 with v2 | v2 | v2 <;> first | (cases h; done) | (cases v1 <;> cases v2 <;> cases h; done)
  | [p, q], h =>
    simp only [List.map_cons, List.map_nil] at h
    have hp := ev_sound r p
    have hq := ev_sound r q
    generalize σ.ev p = v1 at h hp
    generalize σ.ev q = v2 at h hq
    rcases v1 with v1 | v1 | v1 <;> rcases v2 with v2 | v2 | v2 <;> try (cases h; done)
    · cases v1 <;> cases v2 <;> try (cases h; done)
      rename_i k1 x k2 z
      have hp : a.eval p = .int k1 x := hp
      have hq : a.eval q = .int k2 z := hq
      dsimp only at h
      split at h
      · refine goal_pure r h (x := .int k1 (mxI x z)) ?_ rfl
        unfold execOp
        rw [ho]
        simp [resolve, invoke, builtin, Builtin.max_, Builtin.max2, hp, hq, mxI]
      · cases h
    all_goals (cases v1 <;> cases h)

theorem act_convert (htt : TTok P tt) (r : Rl F σ a w g) (hH : HOk H σ.h o.dst) {s t : TypeId} {x : Operand} (ho : o.op = .convert s t x) (h : act tt env k o (o.op.operands.toList.map σ.ev) H K = some y) : Goal P F σ a w g o K y := by
  unfold act at h
  rw [ho] at h
  simp only [Op.operands, List.map_cons, List.map_nil] at h
  have hx := ev_sound r x
  cases ex : σ.ev x with
  | one v =>
    rw [ex] at h hx
    dsimp only at h
    cases hk : kindT tt t with
    | none => rw [hk] at h; cases h
    | some c =>
      rw [hk] at h
      obtain ⟨b, fs, hl⟩ := kindT_some hk
      cases c <;> try (cases h; done)
      case int k =>
        cases v <;> try (cases h; done)
        rename_i k' n
        have hb : a.eval x = .int k' n := hx
        have ht := htt.int _ _ _ _ hl
        cases hs : kindT tt s with
        | none => rw [hs] at h; cases h
        | some c' =>
          rw [hs] at h
          cases c' <;> try (cases h; done)
          rename_i k2
          obtain ⟨b', fs', hl'⟩ := kindT_some hs
          have hs' := htt.int _ _ _ _ hl'
          dsimp only at h
          refine goal_pure r h (x := .int k (k.wrap n)) ?_ rfl
          unfold execOp
          rw [ho]
          simp [convert, run_underlying ht, run_underlying hs', hb, Conv.intToInt]
      case str =>
        dsimp only at h
        cases hs : kindT tt s with
        | none => rw [hs] at h; cases h
        | some c' =>
          rw [hs] at h
          have hc' : c' = .sl (.int .u8) := by
            cases c' <;> try (cases h; done)
            rename_i e'
            cases e' <;> try (cases h; done)
            rename_i k'
            cases k' <;> first | rfl | cases h
          subst hc'
          dsimp only at h
          obtain ⟨b', fs', hl'⟩ := kindT_some hs
          obtain ⟨et, u1, u2⟩ := htt.elt _ _ _ _ hl'
          have ht := htt.str _ _ _ hl
          cases hv : slOf H .bor v (.int .u8) with
          | none => rw [hv] at h; cases h
          | some q =>
            obtain ⟨xs, ids⟩ := q
            rw [hv] at h
            dsimp only at h
            obtain ⟨v', hv', hh⟩ := slOf_shared r hH hv hx (Z' := fun _ => True) (fun _ _ => trivial) (fun _ _ _ _ => trivial)
            simp only [List.cons.injEq, and_true] at hv'
            have run : ∀ A cap, a.eval x = .slice A xs.length cap → (Conv.bytesToString (a.eval x)).run P w = .ok (strV (bytesOf xs)) w → (execOp a.eval o).run P w = .ok (.value (strV (bytesOf xs))) w := by
              intro A cap hA hr
              unfold execOp
              rw [ho]
              rw [hA] at hr
              simp only [hA, Sem.run_bind, run_convert_bytes_string w s t et A _ cap u1 u2 ht, hr, Result.andThen_ok]
              rfl
            refine goal_pure r h (x := strV (bytesOf xs)) ?_ rfl
            rcases hh with ⟨hd, _⟩ | ⟨_, _, A, cap, rfl, hc, hh⟩
            · cases hd
            · refine run A cap hv' ?_
              rw [hv']
              cases A with
              | none =>
                rcases hh with hh | ⟨b, off, vs, fs, hA, _⟩
                · subst hh; rfl
                · cases hA
              | some ad =>
                rcases hh with hh | ⟨b, off, vs, fs, hA, c1, c2, _⟩
                · subst hh
                  rw [run_bytesToString w ad _ cap [] (by simp [loadCells, loadCellsFrom])]
                  rfl
                · cases hA
                  have hvs := Cat.ints c2
                  have hlen : vs.length = xs.length := by rw [hvs, List.length_map]
                  rw [run_bytesToString w _ _ cap xs]
                  · rw [foldl_push]
                    simp [strV]
                  · have := run_loadCells_list (P := P) w ⟨b, off, none⟩ vs (fun j v hj => by rw [Addr.add_lit]; exact c1 j v hj)
                    rw [hlen, hvs] at this
                    exact this
  | _ => rw [ex] at h; cases h

theorem act_field (htt : TTok P tt) (r : Rl F σ a w g) {t : TypeId} {x : Operand} {f : Nat} (ho : o.op = .field t x f) (h : act tt env k o (o.op.operands.toList.map σ.ev) H K = some y) : Goal P F σ a w g o K y := by
  unfold act at h
  rw [ho] at h
  simp only [Op.operands, List.map_cons, List.map_nil] at h
  have hx := ev_sound r x
  cases ex : σ.ev x with
  | agg cs =>
    rw [ex] at h hx
    dsimp only at h
    cases hf : fieldT tt t f with
    | none => rw [hf] at h; cases h
    | some q =>
      obtain ⟨off, d⟩ := q
      rw [hf] at h
      dsimp only at h
      obtain ⟨hle, h⟩ := cond_some h
      have hle := Nat.le_of_ble_eq_true hle
      have hl : ∃ c b fs, look tt t = some (.val c b fs) ∧ fs[f]? = some (off, d) := by
        unfold fieldT at hf
        split at hf
        · rename_i c b fs hl; exact ⟨c, b, fs, hl, hf⟩
        · cases hf
      obtain ⟨c, b, fs, hl, hfs⟩ := hl
      obtain ⟨Fs, fl, u1, u2, u3, u4, u5, u6⟩ := htt.fld _ _ _ _ _ _ _ hl hfs
      obtain ⟨us, hu, hall⟩ := hx
      have hlen := hall.length
      have hall' := (hall.drop off).take d.size
      refine goal_pure r h (x := valV d ((us.drop off).take d.size)) ?_ (toSV_sound hall' (by rw [List.length_take, List.length_drop]; omega))
      unfold execOp
      rw [ho]
      simp only [hu, Instr.field, Sem.run_bind, run_underlying u1, Result.andThen_ok, u2, u3, asAgg, Sem.run_pure, part, u4.agg, valV]
      cases hd : d.isAgg with
      | true =>
        simp only [if_true, Sem.run_bind, u4.size, Result.andThen_ok, Sem.run_pure, cond_true]
        congr 3
        simp
      | false =>
        have h1 := size_of_not_agg hd
        rw [h1] at hle ⊢
        have : off < us.length := by omega
        have e : (us.drop off).take 1 = [us[off]] := by rw [List.drop_eq_getElem_cons this]; rfl
        rw [e]
        simp [this]
  | _ => rw [ex] at h; cases h

/-! ### loads -/
theorem expS_sound {g : Gh} {w : World} {h : Nat → RE} : ∀ {c : CK} {x : c.den} {us : List Value}, Has g.Z w false c x us [] → All2 (CVr g w h) (expS c x) us
  | .int k, n, us, hu => by rw [hu.1]; exact ⟨rfl, trivial⟩
  | .bool, n, us, hu => by rw [hu.1]; exact ⟨rfl, trivial⟩
  | .str, n, us, hu => by rw [hu.1]; exact ⟨rfl, trivial⟩
  | .unit, n, us, hu => by rw [hu.1]; trivial
  | .sl e, xs, us, hu => by
    obtain ⟨v, rfl, hh⟩ := hu
    exact ⟨⟨v, rfl, hh⟩, trivial⟩
  | .pair p q, x, us, ⟨u1, u2, f1, f2, h1, h2, h3, h4⟩ => by
    rw [h1]
    have : f1 = [] ∧ f2 = [] := by simpa using h2.symm
    obtain ⟨rfl, rfl⟩ := this
    exact (expS_sound h3).append (expS_sound h4)

theorem expS_len : ∀ (c : CK) (x : c.den), (expS c x).length = c.size
  | .int k, n => rfl
  | .bool, n => rfl
  | .str, n => rfl
  | .unit, n => rfl
  | .sl e, xs => rfl
  | .pair p q, x => by simp [expS, expS_len p, expS_len q, CK.size]

/-- The cells of a deep value: its slices are named by their places. -/
theorem expD_sound {g : Gh} {w : World} {h : Nat → RE} {mk : Nat → CV} {Z : Nat → Prop} {d : Bool} : ∀ {c : CK} {x : c.den} {us : List Value} {fp : List Nat} {off : Nat}, Has Z w d c x us fp →
    (∀ j e u, c.cell j = some (.sl e) → us[j]? = some u → u.oneCell' = true → CVr g w h (mk (off + j)) u) → All2 (CVr g w h) (expD mk c x off) us
  | .int k, n, us, _, _, hu, _ => by rw [hu.1]; exact ⟨rfl, trivial⟩
  | .bool, n, us, _, _, hu, _ => by rw [hu.1]; exact ⟨rfl, trivial⟩
  | .str, n, us, _, _, hu, _ => by rw [hu.1]; exact ⟨rfl, trivial⟩
  | .unit, n, us, _, _, hu, _ => by rw [hu.1]; trivial
  | .sl e, xs, us, _, off, hu, hm => by
    obtain ⟨v, rfl, hh⟩ := hu
    refine ⟨hm 0 e v rfl rfl ?_, trivial⟩
    rcases hh with ⟨_, A, cap, rfl, _⟩ | ⟨_, _, A, cap, rfl, _⟩ <;> rfl
  | .pair p q, x, us, _, off, ⟨u1, u2, f1, f2, h1, h2, h3, h4⟩, hm => by
    subst h1
    have hl := h3.len
    refine (expD_sound h3 (fun j e u hj hu h1c => hm j e u ?_ ?_ h1c)).append (expD_sound h4 (fun j e u hj hu h1c => ?_))
    · have : j < p.size := by rw [← hl]; exact (List.getElem?_eq_some_iff.1 hu).1
      simp only [CK.cell]
      rw [show Nat.blt j p.size = true by rw [Nat.blt_eq]; exact this]
      exact hj
    · rw [List.getElem?_append_left (List.getElem?_eq_some_iff.1 hu).1]; exact hu
    · have := hm (p.size + j) e u (by
        simp only [CK.cell]
        rw [show Nat.blt (p.size + j) p.size = false by
          cases hb : Nat.blt (p.size + j) p.size with
          | false => rfl
          | true => rw [Nat.blt_eq] at hb; omega]
        simpa using hj) (by rw [List.getElem?_append_right (by omega)]; rw [hl]; simpa using hu) h1c
      rwa [Nat.add_assoc]

theorem expD_len (mk : Nat → CV) : ∀ (c : CK) (x : c.den) (off : Nat), (expD mk c x off).length = c.size
  | .int k, n, _ => rfl
  | .bool, n, _ => rfl
  | .str, n, _ => rfl
  | .unit, n, _ => rfl
  | .sl e, xs, _ => rfl
  | .pair p q, x, off => by simp [expD, expD_len mk p, expD_len mk q, CK.size]

theorem RowAt.snoc {w : World} : ∀ {p : Path} {e e' : CK} {v v' u : Value} {i : Int} {off : Nat} {b o len cap : Nat} {e1 : CK}, RowAt w e v p v' → kindRow e p = some e' → v' = .slice (some ⟨b, o, none⟩) len cap → 0 ≤ i → i < (len : Int) →
    e'.cell off = some (.sl e1) → w.cell? ⟨b, o + (i.toNat * e'.size + off), none⟩ = some u → RowAt w e v (p ++ [(i, off)]) u
  | [], e, e', v, v', u, i, off, b, o, len, cap, e1, h, hk, hv, h0, h1, hc, hu => by
    simp only [kindRow, Option.some.injEq] at hk
    subst hk
    simp only [RowAt] at h
    subst h
    exact ⟨b, o, len, cap, u, e1, hv, h0, h1, hc, hu, rfl⟩
  | (j, o2) :: p, e, e', v, v', u, i, off, b, o, len, cap, e1, h, hk, hv, h0, h1, hc, hu => by
    obtain ⟨b2, o3, len2, cap2, u2, e2, m1, m2, m3, m4, m5, m6⟩ := h
    simp only [kindRow, m4] at hk
    exact ⟨b2, o3, len2, cap2, u2, e2, m1, m2, m3, m4, m5, RowAt.snoc m6 hk hv h0 h1 hc hu⟩

theorem CK.cell_lens : ∀ {e : CK} {off : Nat} {c : CK} {L : Lens e c}, e.lens off c = some L → ∀ {j : Nat} {e1 : CK}, c.cell j = some (.sl e1) → e.cell (off + j) = some (.sl e1)
  | e, off, c, L, hL, j, e1, hc => by
    by_cases h : e = c ∧ off = 0
    · obtain ⟨rfl, rfl⟩ := h
      simpa using hc
    · match e with
      | .pair p q =>
        rw [CK.lens.eq_def] at hL
        dsimp only at hL
        rw [dif_neg h] at hL
        have hcj : j < c.size ∨ ∀ x, c.cell j ≠ some (.sl x) := by
          have key : ∀ (c : CK) (j : Nat) (x : CK), c.cell j = some (.sl x) → j < c.size := by
            intro c
            induction c with
            | pair a b iha ihb =>
              intro j x hx
              simp only [CK.cell] at hx
              cases hb : Nat.blt j a.size with
              | true => rw [Nat.blt_eq] at hb; simp only [CK.size]; omega
              | false =>
                rw [hb] at hx
                have := ihb _ _ hx
                simp only [CK.size]; omega
            | sl e _ =>
              intro j x hx
              simp only [CK.cell] at hx
              cases hb : Nat.beq j 0 with
              | true => have := Nat.eq_of_beq_eq_true hb; subst this; simp [CK.size]
              | false => rw [hb] at hx; cases hx
            | unit => intro j x hx; simp only [CK.cell] at hx; cases hb : Nat.beq j 0 <;> rw [hb] at hx <;> cases hx
            | int k => intro j x hx; simp only [CK.cell] at hx; cases hb : Nat.beq j 0 <;> rw [hb] at hx <;> cases hx
            | bool => intro j x hx; simp only [CK.cell] at hx; cases hb : Nat.beq j 0 <;> rw [hb] at hx <;> cases hx
            | str => intro j x hx; simp only [CK.cell] at hx; cases hb : Nat.beq j 0 <;> rw [hb] at hx <;> cases hx
          exact .inl (key c j e1 hc)
        have hj : j < c.size := hcj.resolve_right (fun h => h e1 hc)
        simp only [CK.cell]
        cases hb : Nat.blt off p.size with
        | true =>
          rw [hb] at hL
          simp only [cond_true, Option.map_eq_some_iff] at hL
          obtain ⟨L', hL', rfl⟩ := hL
          have ih := CK.cell_lens hL' hc
          have hlt : off + c.size ≤ p.size := by
            have hz := CK.lens_spec (Z := fun _ => True) (w := default) (m := false) hL' (Has.zero (fun _ => True) default false p)
            obtain ⟨w1, wm, w2, f1, fm, f2, e1', e2, e3, e4, _⟩ := hz
            have a1 := (Has.zero (fun _ => True) (default : World) false p).len
            have a2 := e4.len
            rw [e1'] at a1
            simp only [List.length_append] at a1
            omega
          rw [show Nat.blt (off + j) p.size = true by rw [Nat.blt_eq]; omega]
          exact ih
        | false =>
          rw [hb] at hL
          simp only [cond_false, Option.map_eq_some_iff] at hL
          obtain ⟨L', hL', rfl⟩ := hL
          have ih := CK.cell_lens hL' hc
          have hge : p.size ≤ off := by
            rw [← Nat.not_lt, ← Nat.blt_eq]
            intro hlt
            rw [hlt] at hb
            cases hb
          rw [show Nat.blt (off + j) p.size = false by
            cases hb : Nat.blt (off + j) p.size with
            | false => rfl
            | true => rw [Nat.blt_eq] at hb; omega]
          rwa [show off + j - p.size = off - p.size + j by omega]
      | .int _ | .bool | .str | .sl _ | .unit => rw [CK.lens.eq_def] at hL; dsimp only at hL; rw [dif_neg h] at hL; cases hL

theorem act_load (htt : TTok P tt) (r : Rl F σ a w g) (hH : HOk H σ.h o.dst) {t : TypeId} {x : Operand} (ho : o.op = .load t x) (h : act tt env k o (o.op.operands.toList.map σ.ev) H K = some y) : Goal P F σ a w g o K y := by
  unfold act at h
  rw [ho] at h
  simp only [Op.operands, List.map_cons, List.map_nil] at h
  have hx := ev_sound r x
  cases ex : σ.ev x with
  | one v =>
    rw [ex] at h hx
    dsimp only at h
    cases hk : kindT tt t with
    | none => rw [hk] at h; cases h
    | some c =>
      rw [hk] at h
      dsimp only at h
      obtain ⟨b, fs, hl⟩ := kindT_some hk
      have ht := htt.is _ _ _ _ hl
      have run : ∀ b off us, a.eval x = .pointer (some ⟨b, off, none⟩) → CellsAt w b off us → us.length = c.size → (execOp a.eval o).run P w = .ok (.value (valV c us)) w := by
        intro b off us hb hc hlen
        unfold execOp
        rw [ho]
        simp only [hb, Instr.loadAt, Instr.sureAddr, Sem.run_bind, Sem.run_pure, Result.andThen_ok, run_loadVar ht hc hlen]
      cases v <;> try (cases h; done)
      case vptr id inc off =>
        dsimp only at h
        cases hv : varAt H id inc with
        | none => rw [hv] at h; cases h
        | some cs =>
          rw [hv] at h
          obtain ⟨hle, h⟩ := cond_some h
          have hle := Nat.le_of_ble_eq_true hle
          obtain ⟨k1, k2, k3⟩ := varAt_sound r hH hv
          obtain ⟨bl, h1, h2⟩ := hx.2 k2 cs k3
          obtain ⟨b', us, ty, m1, m2, m3, m4⟩ := r.var k3
          rw [h1] at m1
          simp only [Value.pointer.injEq, Option.some.injEq, Addr.mk.injEq, and_true] at m1
          subst m1
          have hlen := m4.length
          have hall := (m4.drop off).take c.size
          refine goal_pure r h (run bl off ((us.drop off).take c.size) h2 ?_ (by rw [List.length_take, List.length_drop]; omega)) (toSV_sound hall (by rw [List.length_take, List.length_drop]; omega))
          intro j u hj
          rw [List.getElem?_take] at hj
          split at hj
          · rw [List.getElem?_drop] at hj
            rw [cell_of_row w bl (off + j) _ ty _ m3]
            simpa using hj
          · cases hj
      case rp c' z =>
        dsimp only at h
        split at h
        · rename_i he
          subst he
          obtain ⟨bl, off, us, h1, h2, h3, h4⟩ := hx
          exact goal_pure r h (run bl off us h1 h3 h4.len) (toSV_sound (expS_sound h4) (expS_len _ _))
        · cases h
      case ptr id inc ver p i off c' =>
        dsimp only at h
        split at h
        · rename_i he
          subst he
          cases hv : rowAt H id inc ver p with
          | none => rw [hv] at h; cases h
          | some R =>
            rw [hv] at h
            dsimp only at h
            cases hL : R.e.lens off c' with
            | none => rw [hL] at h; cases h
            | some L =>
              rw [hL] at h
              dsimp only at h
              obtain ⟨k1, k2, k3, e0, xs0, k4, k5⟩ := rowAt_sound r hH hv
              obtain ⟨bl, oo, len, cap, h1, h2, h3, h4⟩ := ptr_some (c := c') r hH hv hx
              obtain ⟨f1, fm, f2, m1, m2, _⟩ := r.row hH hv h4
              have hlen : (len : Int) = R.xs.length := by
                obtain ⟨A, cap', hA, _⟩ := m2
                cases hA
                rfl
              obtain ⟨b2, o2, cap2, f1', fm', f2', um, n1, n2, n3, n4, n5, n6, n7, _⟩ := RowOwn.elem m2 h2 (by omega) hL
              cases n1
              rw [← Nat.add_assoc, Nat.add_assoc oo] at n6
              have hrun := run bl _ um h1 n6 n7.len
              cases hfl : (c'.flat || !R.d) with
              | true =>
                rw [hfl] at h
                simp only [cond_true] at h
                have hs : Has g.Z w false c' (L.get (rdL R.xs i R.e.dflt)) um [] := by
                  rw [Bool.or_eq_true] at hfl
                  rcases hfl with hf | hd
                  · exact (Has.flat hf n7).2 _ _ _
                  · have hd : R.d = false := by simpa using hd
                    rw [hd] at n7
                    have := Has.fp_false n7
                    subst this
                    exact n7
                exact goal_pure r h hrun (toSV_sound (expS_sound hs) (expS_len _ _))
              | false =>
                rw [hfl] at h
                simp only [cond_false] at h
                have hd : R.d = true := by
                  rw [Bool.or_eq_false_iff] at hfl
                  simpa using hfl.2
                refine goal_pure r h hrun (toSV_sound (expD_sound n7 (fun j e1 u hj hu h1c => ?_)) (expD_len _ _ _ _))
                refine ⟨⟨hx.1.1, fun _ => ?_, h1c⟩, fun d' e' xs' hc' _ => ?_⟩
                · rw [k1]; exact Nat.le_refl _
                · have hkr : kindRow e' p = some R.e := by rw [k4] at hc'; cases hc'; exact kindRow_of_get k5
                  have hcell := n6 j u hu
                  refine RowAt.snoc (h4 d' e' xs' hc') hkr rfl h2 (by omega) (CK.cell_lens hL hj) ?_
                  rw [← hcell]
                  congr 2
                  omega
        · cases h
  | _ => rw [ex] at h; cases h
end
end VM
