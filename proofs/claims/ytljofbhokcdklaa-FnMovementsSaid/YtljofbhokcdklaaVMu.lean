/- Regions. -/
import Derived.Test.YtljofbhokcdklaaVMt
import Derived.Orders
set_option linter.unusedVariables false
set_option linter.unusedSimpArgs false
namespace VM
open Go

section
variable {P : Program} {F : Fx} {σ : St} {a : Act} {w : World} {g : Gh} {R : Type} {tt : List (Nat × TD)} {env : List Ct} {k : Nat} {o : Oper} {H : Nat → RE} {y : R} {B : St} {N : Nat} {ops : Array Oper}

def RunOk (tt : List (Nat × TD)) (env : List Ct) (k : Nat) (o : Oper) (σ : St) (d : Upd) (rc : Rec) (rd : List Nat) : Prop :=
  act tt env k o (o.op.operands.toList.map σ.ev) (restrict (consult σ.h o.dst (o.op.operands.toList.map σ.ev)) σ.h) some = some d ∧
    rc = ⟨rd ++ tmpsOf o, o.dst, consult σ.h o.dst (o.op.operands.toList.map σ.ev), d.hs.map (·.1)⟩

def StepOk (tt : List (Nat × TD)) (env : List Ct) (k : Nat) (B : St) (N : Nat) (ops : Array Oper) (o : Oper) (σ : St) (d : Upd) (rc : Rec) : Prop :=
  okDst B N o.dst = true ∧
  ((o.guard = none ∧ RunOk tt env k o σ d rc []) ∨
   ∃ j want t, o.guard = some (j, want) ∧ (ops[j]?).bind (·.dst) = some t ∧
     ((σ.s t = .one (.bool want) ∧ RunOk tt env k o σ d rc [t]) ∨
      ((σ.s t = .one (.bool !want) ∨ σ.s t = .tup []) ∧ d = ⟨.tup [], []⟩ ∧ rc = ⟨[t], o.dst, [], []⟩)))

inductive Chain (tt : List (Nat × TD)) (env : List Ct) (k : Nat) (B : St) (N : Nat) (ops : Array Oper) : List Oper → St → List (Upd × Rec) → St → Prop
  | nil (σ : St) : Chain tt env k B N ops [] σ [] σ
  | cons {o : Oper} {rest : List Oper} {σ σ' : St} {d : Upd} {rc : Rec} {l : List (Upd × Rec)} : StepOk tt env k B N ops o σ d rc → Chain tt env k B N ops rest (σ.upd o.dst d) l σ' → Chain tt env k B N ops (o :: rest) σ ((d, rc) :: l) σ'

theorem setS_same {σ : St} {t : Nat} {v : SV} (h : σ.s t = v) : σ.setS t v = σ := by
  unfold St.setS
  have : (fun j => bif Nat.beq j t then v else σ.s j) = σ.s := by
    funext j
    cases hb : Nat.beq j t with
    | false => rfl
    | true =>
      have := Nat.eq_of_beq_eq_true hb
      subst this
      exact h.symm
  rw [this]

theorem doOp_some {rd : List Nat} {K : St → Rec → Option R} (h : doOp tt env k B N o σ rd K = some y) : okDst B N o.dst = true ∧ ∃ d rc, RunOk tt env k o σ d rc rd ∧ K (σ.upd o.dst d) rc = some y := by
  unfold doOp at h
  obtain ⟨h1, h⟩ := cond_some h
  simp only at h
  rw [act_nat] at h
  obtain ⟨d, h2, h3⟩ := Option.bind_eq_some_iff.1 h
  exact ⟨h1, d, _, ⟨h2, rfl⟩, h3⟩

theorem noOp_some {rd : List Nat} {K : St → Rec → Option R} (h : noOp B N o σ rd K = some y) : okDst B N o.dst = true ∧ K (σ.upd o.dst ⟨.tup [], []⟩) ⟨rd, o.dst, [], []⟩ = some y := by
  unfold noOp at h
  exact cond_some h

theorem sel_some {c : Bool} {p q : Option R} (h : sel c p q = some y) : (c = true ∧ p = some y) ∨ (c = false ∧ q = some y) := by
  cases c
  · exact .inr ⟨rfl, h⟩
  · exact .inl ⟨rfl, h⟩

theorem evOps_some : ∀ {rest : List Oper} {σ : St} {rs : List Rec} {K : St → List Rec → Option R}, evOps tt env k B N ops rest σ rs K = some y →
    ∃ l σ', Chain tt env k B N ops rest σ l σ' ∧ K σ' ((l.map (·.2)).reverse ++ rs) = some y
  | [], σ, rs, K, h => ⟨[], σ, .nil σ, h⟩
  | o :: rest, σ, rs, K, h => by
    have fin : ∀ d rc, StepOk tt env k B N ops o σ d rc → evOps tt env k B N ops rest (σ.upd o.dst d) (rc :: rs) K = some y → ∃ l σ', Chain tt env k B N ops (o :: rest) σ l σ' ∧ K σ' ((l.map (·.2)).reverse ++ rs) = some y := by
      intro d rc hs h
      obtain ⟨l, σ', h1, h2⟩ := evOps_some h
      refine ⟨(d, rc) :: l, σ', .cons hs h1, ?_⟩
      rw [List.map_cons, List.reverse_cons, List.append_assoc]
      exact h2
    unfold evOps at h
    split at h
    · rename_i hg
      obtain ⟨h1, d, rc, h2, h3⟩ := doOp_some h
      exact fin d rc ⟨h1, .inl ⟨hg, h2⟩⟩ h3
    · rename_i j want hg
      split at h
      · rename_i t ht
        have doIt : ∀ {σ1 : St}, σ1 = σ → σ.s t = .one (.bool want) → doOp tt env k B N o σ1 [t] (fun σ' r => evOps tt env k B N ops rest σ' (r :: rs) K) = some y → ∃ l σ', Chain tt env k B N ops (o :: rest) σ l σ' ∧ K σ' ((l.map (·.2)).reverse ++ rs) = some y := by
          rintro σ1 rfl hb h
          obtain ⟨h1, d, rc, h2, h3⟩ := doOp_some h
          exact fin d rc ⟨h1, .inr ⟨j, want, t, hg, ht, .inl ⟨hb, h2⟩⟩⟩ h3
        have noIt : ∀ {σ1 : St}, σ1 = σ → (σ.s t = .one (.bool !want) ∨ σ.s t = .tup []) → noOp B N o σ1 [t] (fun σ' r => evOps tt env k B N ops rest σ' (r :: rs) K) = some y → ∃ l σ', Chain tt env k B N ops (o :: rest) σ l σ' ∧ K σ' ((l.map (·.2)).reverse ++ rs) = some y := by
          rintro σ1 rfl hb h
          obtain ⟨h1, h3⟩ := noOp_some h
          exact fin _ _ ⟨h1, .inr ⟨j, want, t, hg, ht, .inr ⟨hb, rfl, rfl⟩⟩⟩ h3
        split at h
        · rename_i b hb
          rcases sel_some h with ⟨rfl, h⟩ | ⟨rfl, h⟩
          · have hs := setS_same hb
            cases want with
            | true => exact doIt hs hb h
            | false => exact noIt hs (.inl hb) h
          · have hs := setS_same hb
            cases want with
            | true => exact noIt hs (.inl hb) h
            | false => exact doIt hs hb h
        · rename_i hb
          exact noIt rfl (.inr hb) h
        · cases h
      · cases h

/-! ### one step -/
structure FOk (F : Fx) : Prop where
  b : F.B.h = fun _ => ⟨2, 0, .none⟩
  p : ∀ p ∈ F.P0, 3000000 ≤ p.1
  n : F.N ≤ 10000

theorem FOk.nw (hF : FOk F) {o : Oper} (hd : okDst F.B F.N o.dst = true) : NwOk F o := by
  intro p hp j hj
  have h1 := hF.p p hp
  have h2 := hF.n
  cases he : o.dst with
  | none => simp only [nid]; omega
  | some d =>
    rw [he] at hd
    unfold okDst at hd
    simp only at hd
    split at hd
    · have : @LT.lt Nat _ d F.N := by simpa using hd
      simp only [nid]
      omega
    · cases hd

theorem restrict_ok (σ : St) (o : Oper) (vs : List SV) : HOk (restrict (consult σ.h o.dst vs) σ.h) σ.h o.dst := by
  constructor
  · intro id h
    unfold restrict at *
    cases hm : memB (consult σ.h o.dst vs) id with
    | true => rfl
    | false => rw [hm] at h; exact absurd rfl h
  · intro j hj
    unfold restrict
    have : memB (consult σ.h o.dst vs) (nid o.dst j) = true := by
      rw [memB_iff]
      unfold consult
      refine List.mem_append_right _ (List.mem_append_right _ (List.mem_map.2 ⟨j, List.mem_range.2 hj, rfl⟩))
    rw [this]
    rfl

theorem StepOk.sound {Q : Exit → Act → World → Prop} (htt : TTok P tt) (henv : EnvOk P env) (hF : FOk F) {d : Upd} {rc : Rec} {i : Nat} (hi : ops[i]? = some o) (hs : StepOk tt env k F.B F.N ops o σ d rc) (r : Rl F σ a w g) {K : Act → World → Prop}
    (hK : ∀ a' w' g', Rl F (σ.upd o.dst d) a' w' g' → K a' w') : wpOp P ops Q i K a w := by
  obtain ⟨hd, hs⟩ := hs
  have run : ∀ rd, RunOk tt env k o σ d rc rd → o.wp P a w K Q := by
    rintro rd ⟨h1, _⟩
    obtain ⟨u, hu, hpost⟩ := act_sound htt henv r (restrict_ok σ o _) (hF.nw hd) h1
    simp only [Option.some.injEq] at hu
    subst hu
    refine hpost K Q ?_
    rintro v w' ⟨g', r', hv⟩
    exact hK _ _ g' (r'.put hd hv)
  unfold wpOp
  rw [hi]
  simp only
  rcases hs with ⟨hg, hr⟩ | ⟨j, want, t, hg, ht, hs⟩
  · have : Region.wanted o (yielded ops a.tmps) = true := by unfold Region.wanted; rw [hg]
    rw [if_pos this]
    exact .inl (run _ hr)
  · have hw : Region.wanted o (yielded ops a.tmps) = (yielded ops a.tmps j == some want) := by unfold Region.wanted; rw [hg]
    rcases hs with ⟨hb, hr⟩ | ⟨hb, rfl, _⟩
    · have hv := r.sl t
      rw [hb] at hv
      have hv : a.tmps.getD t undef = .bool want := hv
      have : a.tmps[t]? = some (.bool want) := by
        cases hc : a.tmps[t]? with
        | none => simp [hc, undef] at hv
        | some v => simp [hc] at hv; rw [hv]
      rw [if_pos (by rw [hw]; unfold yielded; rw [ht]; simp [this])]
      exact .inl (run _ hr)
    · have hno : (yielded ops a.tmps j == some want) = false := by
        have hv := r.sl t
        unfold yielded
        rw [ht]
        simp only [Option.bind_some]
        rcases hb with hb | hb
        · rw [hb] at hv
          have hv : a.tmps.getD t undef = .bool !want := hv
          cases hc : a.tmps[t]? with
          | none => simp
          | some v =>
            simp [hc] at hv
            rw [hv]
            cases want <;> rfl
        · rw [hb] at hv
          obtain ⟨us, hv, hus⟩ := hv
          cases us with
          | cons => exact hus.elim
          | nil =>
          cases hc : a.tmps[t]? with
          | none => simp
          | some v =>
            simp [hc] at hv
            rw [hv]
            rfl
      rw [if_neg (by rw [hw, hno]; simp)]
      refine hK _ _ g ?_
      refine Rl.put (σ := ⟨σ.s, setH σ.h []⟩) r hd ?_
      exact ⟨[], rfl, trivial⟩

/-! ### in the order of the text -/
theorem Chain.text {Q : Exit → Act → World → Prop} (htt : TTok P tt) (henv : EnvOk P env) (hF : FOk F) : ∀ {rest : List Oper} {σ σ' : St} {l : List (Upd × Rec)}, Chain tt env k F.B F.N ops rest σ l σ' → ∀ {i : Nat}, ops.toList.drop i = rest →
    ∀ {a : Act} {w : World} {g : Gh}, Rl F σ a w g → (∀ a' w' g', Rl F σ' a' w' g' → Q .normal a' w') → wpOps P ops Q (List.range' i rest.length) a w := by
  intro rest σ σ' l hc
  induction hc with
  | nil σ =>
    intro i hi a w g r hQ
    exact hQ _ _ _ r
  | cons hs hc ih =>
    rename_i o rest σ σ' d rc l
    intro i hi a w g r hQ
    rw [List.length_cons, List.range'_succ, wpOps_cons]
    have hget : ops[i]? = some o := by
      have := congrArg (·[0]?) hi
      simpa using this
    refine StepOk.sound htt henv hF hget hs r fun a' w' g' r' => ?_
    refine ih ?_ r' hQ
    rw [← List.drop_drop, hi]
    rfl
end
end VM
