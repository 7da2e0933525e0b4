/- Cutting. Then the operations that make or write memory. -/
import Derived.Test.YtljofbhokcdklaaVMg
set_option linter.unusedVariables false
set_option linter.unusedSimpArgs false
namespace VM
open Go

section
variable {P : Program} {F : Fx} {σ : St} {a : Act} {w : World} {g : Gh} {R : Type} {tt : List (Nat × TD)} {env : List Ct} {k : Nat} {o : Oper} {H : Nat → RE} {K : Upd → Option R} {y : R}

theorem intsOf_sound : ∀ {vs : List SV} {us : List Value} {bs : List Int}, intsOf vs = some bs → All2 (SVr g w σ.h) vs us → us = bs.map (Value.int .i64)
  | [], [], bs, h, _ => by simp only [intsOf, Option.some.injEq] at h; subst h; rfl
  | v :: vs, u :: us, bs, h, ⟨h1, h2⟩ => by
    cases v with
    | one v =>
      cases v with
      | int kk n =>
        cases kk <;> simp only [intsOf] at h <;> try cases h
        cases hr : intsOf vs with
        | none => rw [hr] at h; cases h
        | some r =>
          rw [hr] at h
          simp only [Option.some.injEq] at h
          subst h
          rw [intsOf_sound hr h2, show u = Value.int .i64 n from h1]
          rfl
      | _ => simp [intsOf] at h
    | _ => simp [intsOf] at h
  | [], _ :: _, _, _, h => h.elim
  | _ :: _, [], _, _, h => h.elim

theorem run_bound (kk : BoundsCode) {n : Int} {m : Nat} (h0 : 0 ≤ n) (h1 : n ≤ (m : Int)) : (Instr.sliceBound (.int .i64 n) m kk).run P w = .ok n.toNat w := by
  simp [Instr.sliceBound, asIntOf, h0, h1]

/-- The three numbers of a cut. -/
theorem run_bounds {isS : Bool} {len cap : Nat} {lo hi : Option Operand} {bs : List Int} (hb : okBs lo hi bs = true) (hl : len ≤ cap)
    (hlo : 0 ≤ loB lo bs) (hlh : loB lo bs ≤ hiB lo hi bs len) (hh : hiB lo hi bs len ≤ len) {ρ : Operand → Value} (hus : (lo.toList ++ hi.toList).map ρ = bs.map (Value.int .i64)) :
    (Instr.sliceBounds isS len cap (lo.map ρ) (hi.map ρ) none).run P w = .ok ((loB lo bs).toNat, (hiB lo hi bs len).toNat, cap) w := by
  match lo, hi, bs, hb with
  | none, none, [], _ => simp [Instr.sliceBounds, loB, hiB]
  | some p, none, [b], _ =>
    have h1 : ρ p = .int .i64 b := by simpa using hus
    have hlo : 0 ≤ b := hlo
    have hlh : b ≤ (len : Int) := hlh
    simp only [Option.map_some, Option.map_none, h1, Instr.sliceBounds, Sem.run_bind, Sem.run_pure, Result.andThen_ok]
    rw [run_bound _ hlo hlh]
    simp [loB, hiB]
  | none, some p, [b], _ =>
    have h1 : ρ p = .int .i64 b := by simpa using hus
    have hlh : 0 ≤ b := hlh
    have hh : b ≤ (len : Int) := hh
    simp only [Option.map_some, Option.map_none, h1, Instr.sliceBounds, Sem.run_bind, Sem.run_pure, Result.andThen_ok]
    rw [run_bound _ hlh (by omega)]
    simp [loB, hiB]
  | some p, some q, [b, c], _ =>
    have h1 : ρ p = .int .i64 b ∧ ρ q = .int .i64 c := by simpa using hus
    have hlo : 0 ≤ b := hlo
    have hlh : b ≤ c := hlh
    have hh : c ≤ (len : Int) := hh
    simp only [Option.map_some, h1.1, h1.2, Instr.sliceBounds, Sem.run_bind, Sem.run_pure, Result.andThen_ok]
    rw [run_bound _ (by omega) (by omega)]
    simp only [Result.andThen_ok]
    rw [run_bound _ hlo (by omega)]
    simp [loB, hiB]

theorem strV_extract (s : List UInt8) (l h : Nat) : Value.string ((ByteArray.mk s.toArray).extract l h) = strV ((s.drop l).take (h - l)) := by
  unfold strV
  congr 1
  apply ByteArray.ext
  rw [ByteArray.data_extract]
  apply Array.ext'
  simp [List.extract_eq_take_drop]

theorem act_slice (htt : TTok P tt) (r : Rl F σ a w g) (hH : HOk H σ.h o.dst) {t : TypeId} {x : Operand} {lo hi mx : Option Operand} (ho : o.op = .slice t x lo hi mx)
    (h : act tt env k o (o.op.operands.toList.map σ.ev) H K = some y) : Goal P F σ a w g o K y := by
  unfold act at h
  rw [ho] at h
  cases mx with
  | some m => cases h
  | none =>
  have hops : (Op.slice t x lo hi none).operands.toList.map σ.ev = σ.ev x :: ((lo.toList ++ hi.toList).map σ.ev) := by
    cases lo <;> cases hi <;> rfl
  rw [hops] at h
  have hx := ev_sound r x
  cases ex : σ.ev x with
  | agg => rw [ex] at h; cases h
  | tup => rw [ex] at h; cases h
  | one v =>
    rw [ex] at h hx
    dsimp only at h
    have hall : All2 (SVr g w σ.h) ((lo.toList ++ hi.toList).map σ.ev) ((lo.toList ++ hi.toList).map a.eval) := by
      generalize lo.toList ++ hi.toList = l
      induction l with
      | nil => trivial
      | cons z l ih => exact ⟨ev_sound r z, ih⟩
    cases hb : intsOf ((lo.toList ++ hi.toList).map σ.ev) with
    | none => rw [hb] at h; cases h
    | some bs =>
      rw [hb] at h
      have hus := intsOf_sound hb hall
      cases hk : kindT tt t with
      | none => rw [hk] at h; cases h
      | some c =>
        rw [hk] at h
        obtain ⟨bb, fs, hlo⟩ := kindT_some hk
        cases hn : lenV H v with
        | none => rw [hn] at h; cases h
        | some n =>
          rw [hn] at h
          dsimp only at h
          obtain ⟨hok, h1⟩ := cond_some h
          clear h
          obtain ⟨hg, h⟩ := grd_some h1
          clear h1
          simp only [Bool.and_eq_true, decide_eq_true_eq] at hg
          obtain ⟨⟨g1, g2⟩, g3⟩ := hg
          rcases lenV_sound r hH hn hx with ⟨s, rfl, hu, rfl⟩ | ⟨hns, A, len, cap, hu, rfl, hlc⟩
          · cases c <;> try (cases h; done)
            dsimp only at h
            have ht := htt.str _ _ _ hlo
            have hz : (ByteArray.mk s.toArray).size = s.length := by simp [ByteArray.size]
            have hrb := run_bounds (P := P) (w := w) (isS := false) hok (Nat.le_refl s.length) g1 g2 g3 hus
            obtain ⟨l, hl⟩ : ∃ l, l = loB lo bs := ⟨_, rfl⟩
            obtain ⟨hh, hhh⟩ : ∃ h, h = hiB lo hi bs (s.length : Int) := ⟨_, rfl⟩
            rw [← hl, ← hhh] at g2 hrb h
            rw [← hl] at g1
            rw [← hhh] at g3
            refine goal_pure r h (x := strV (subL s l hh)) ?_ rfl
            unfold execOp
            rw [ho]
            have e1 : (hh - l).toNat = hh.toNat - l.toNat := by omega
            simp only [hu, strV, Instr.sliceAt, Instr.slice, Sem.run_bind, run_underlying ht, Result.andThen_ok, Option.map_none, Option.isSome_none, Bool.false_eq_true, if_false, hz, hrb]
            simp only [Sem.run_pure, strV_extract, e1, subL]
            rfl
          · cases c with
            | str =>
              cases v <;> first | (cases h; done) | exact absurd rfl (hns _)
            | sl e' =>
              obtain ⟨et, u1, u2, u3, _⟩ := htt.sl _ _ _ _ hlo
              have hrb := run_bounds (P := P) (w := w) (isS := true) hok hlc g1 g2 g3 hus
              obtain ⟨l, hl⟩ : ∃ l, l = loB lo bs := ⟨_, rfl⟩
              obtain ⟨hh, hhh⟩ : ∃ h, h = hiB lo hi bs (len : Int) := ⟨_, rfl⟩
              rw [← hl, ← hhh] at g2 hrb h
              rw [← hl] at g1
              rw [← hhh] at g3
              have run : (execOp a.eval o).run P w = .ok (.value (.slice (if cap = l.toNat then A else A.map (·.add (l.toNat * e'.size))) (hh.toNat - l.toNat) (cap - l.toNat))) w := by
                unfold execOp
                rw [ho]
                simp [hu, Instr.sliceAt, Instr.slice, run_underlying u1, hrb, u2.size]
              have hsub : SubV e'.size (a.eval x) l hh (.slice (if cap = l.toNat then A else A.map (·.add (l.toNat * e'.size))) (hh.toNat - l.toNat) (cap - l.toNat)) :=
                ⟨g1, g2, A, len, cap, hu, g3, rfl⟩
              cases v with
              | nil =>
                have hu' : a.eval x = .slice none 0 0 := hx
                rw [hu'] at hu
                cases hu
                have : l = 0 ∧ hh = 0 := by omega
                obtain ⟨rfl, rfl⟩ := this
                exact goal_pure r h run rfl
              | sl e xs =>
                dsimp only at h
                split at h
                · rename_i he
                  subst he
                  refine goal_pure r h run ?_
                  obtain ⟨v', hv', hh'⟩ := hx
                  simp only [List.cons.injEq, and_true] at hv'
                  rcases hh' with ⟨hd, _⟩ | ⟨_, _, hsh⟩
                  · cases hd
                  · rw [← hv'] at hsh
                    exact ⟨_, rfl, .inr ⟨rfl, rfl, hsh.sub hsub⟩⟩
                · cases h
              | row id inc ver p =>
                dsimp only at h
                cases hv : rowAt H id inc ver p with
                | none => rw [hv] at h; cases h
                | some R =>
                  rw [hv] at h
                  dsimp only at h
                  split at h
                  · rename_i he
                    subst he
                    obtain ⟨_, hat⟩ := row_some r hH hv hx
                    exact goal_pure r h run ⟨⟨hx.1.1, hx.1.2.1, rfl⟩, fun d e xs hc _ => ⟨a.eval x, R.e, (hat d e xs hc).2, (hat d e xs hc).1, hsub⟩⟩
                  · cases h
              | _ => cases h
            | _ => cases v <;> (cases h; done)
end
end VM
