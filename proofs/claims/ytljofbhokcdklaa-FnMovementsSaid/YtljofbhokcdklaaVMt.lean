/- All operations. -/
import Derived.Test.YtljofbhokcdklaaVMs2
set_option linter.unusedVariables false
set_option linter.unusedSimpArgs false
namespace VM
open Go

section
variable {P : Program} {F : Fx} {σ : St} {a : Act} {w : World} {g : Gh} {R : Type} {tt : List (Nat × TD)} {env : List Ct} {k : Nat} {o : Oper} {H : Nat → RE} {K : Upd → Option R} {y : R}

theorem grd_nat {α β : Type} (c : Bool) (x : Option α) (K : α → Option β) : (grd c x).bind K = grd c (x.bind K) := by cases c <;> rfl
theorem sel_nat {α β : Type} (c : Bool) (x y : Option α) (K : α → Option β) : (sel c x y).bind K = sel c (x.bind K) (y.bind K) := by cases c <;> rfl
theorem cond_nat {α β : Type} (c : Bool) (x y : Option α) (K : α → Option β) : (cond c x y).bind K = cond c (x.bind K) (y.bind K) := by cases c <;> rfl
theorem need_nat {α β γ : Type} (x : Option γ) (f : γ → Option α) (K : α → Option β) : (need x f).bind K = need x fun c => (f c).bind K := by cases x <;> rfl
theorem bnd_nat {α β γ : Type} (x : Option γ) (f : γ → Option α) (K : α → Option β) : (bnd x f).bind K = bnd x fun c => (f c).bind K := by cases x <;> rfl

theorem binI_nat {α β : Type} (op : BinOp) (kk : IntKind) (x y : Int) (f : CV → Option α) (K : α → Option β) : (binI op kk x y f).bind K = binI op kk x y fun v => (f v).bind K := by
  cases op <;> simp only [binI, grd_nat, need_nat] <;> rfl

theorem binV_nat {α β : Type} (tb : Bool) (op : BinOp) (x y : CV) (f : CV → Option α) (K : α → Option β) : (binV tb op x y f).bind K = binV tb op x y fun v => (f v).bind K := by
  unfold binV
  split
  · split
    · rw [grd_nat]
    · rw [grd_nat]
    · split
      · rw [binI_nat]
      · rfl
  · split
    · rw [grd_nat]
    · rw [need_nat]
  · rw [cond_nat]
    congr 1
    split <;> rfl
  · rfl

theorem act_nat (vs : List SV) : act tt env k o vs H K = (act tt env k o vs H some).bind K := by
  unfold act
  repeat' first
    | rfl
    | contradiction
    | (rw [binV_nat]; rfl)
    | (rw [grd_nat]; rfl)
    | (rw [sel_nat]; rfl)
    | (rw [bnd_nat]; congr 1; funext; dsimp only)
    | (rw [cond_nat]; congr 1)
    | (rw [grd_nat]; congr 1)
    | split

theorem act_some (h : act tt env k o (o.op.operands.toList.map σ.ev) H K = some y) : ∃ u, act tt env k o (o.op.operands.toList.map σ.ev) H some = some u ∧ K u = some y := by
  rw [act_nat] at h
  exact Option.bind_eq_some_iff.1 h

theorem act_sound (htt : TTok P tt) (henv : EnvOk P env) (r : Rl F σ a w g) (hH : HOk H σ.h o.dst) (hn : NwOk F o) (h : act tt env k o (o.op.operands.toList.map σ.ev) H K = some y) : Goal P F σ a w g o K y := by
  cases ho : o.op with
  | move x => exact act_move r ho h
  | assign x => exact act_assign r ho h
  | pick c p q => exact act_pick r ho h
  | alloc t => exact act_alloc htt r hH hn ho h
  | box t x => exact act_box htt r hH hn ho h
  | build t ps => exact act_build htt r ho h
  | buildSlice t n ps => exact act_buildSlice htt r hH hn ho h
  | makeSlice t x z => exact act_makeSlice htt r hH hn ho h
  | load t x => exact act_load htt r hH ho h
  | store t x z => exact act_store htt r hH ho h
  | nilCheck x => exact act_nilCheck r hH ho h
  | binOp op t x z t' => exact act_binOp htt r ho h
  | unOp op t x =>
    cases op with
    | not => exact act_not r ho h
    | neg => exact act_neg r ho h
    | _ => unfold act at h; rw [ho] at h; cases h
  | convert s t x => exact act_convert htt r hH ho h
  | fieldAddr t x f => exact act_fieldAddr htt r hH ho h
  | field t x f => exact act_field htt r ho h
  | indexAddr t x i => exact act_indexAddr htt r hH ho h
  | index t x i => exact act_index r htt ho h
  | slice t x lo hi mx => exact act_slice htt r hH ho h
  | extract x i => exact act_extract r ho h
  | makeMap t q => exact act_makeMap htt r hH hn ho h
  | lookup t x z ok => exact act_lookup htt r hH ho h
  | mapUpdate t x z v => exact act_mapUpdate htt r hH ho h
  | call c =>
    obtain ⟨callee, as, ts⟩ := c
    cases callee with
    | value ff => exact act_call henv r hH hn ho h
    | builtin b =>
      cases b with
      | len => exact act_len htt r hH ho h
      | min => exact act_min r ho h
      | max => exact act_max r ho h
      | append => exact act_append htt r hH hn ho h
      | _ => unfold act at h; rw [ho] at h; cases h
    | invoke r n => unfold act at h; rw [ho] at h; cases h
  | _ => unfold act at h; rw [ho] at h; cases h
end
end VM
