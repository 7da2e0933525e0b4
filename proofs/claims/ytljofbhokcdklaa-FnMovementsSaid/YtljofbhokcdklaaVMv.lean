/- Regions, in any order that keeps the edges. -/
import Derived.Test.YtljofbhokcdklaaVMu
set_option linter.unusedVariables false
set_option linter.unusedSimpArgs false
namespace VM
open Go

/-! ### what must stand before -/
def edgeBits (acc : Array Nat) (es : Array Edge) : Nat := es.foldl (fun s e => if Region.binds .any e then s ||| 2 ^ e.on ||| acc.getD e.on 0 else s) 0

theorem edgeBits_bit (acc : Array Nat) (es : Array Edge) (i : Nat) (h : (edgeBits acc es).testBit i = true) : ∃ e ∈ es, Region.binds .any e = true ∧ (e.on = i ∨ (acc.getD e.on 0).testBit i = true) := by
  have key : ∀ (l : List Edge) (s : Nat), (l.foldl (fun s e => if Region.binds .any e then s ||| 2 ^ e.on ||| acc.getD e.on 0 else s) s).testBit i = true →
      s.testBit i = true ∨ ∃ e ∈ l, Region.binds .any e = true ∧ (e.on = i ∨ (acc.getD e.on 0).testBit i = true) := by
    intro l
    induction l with
    | nil => intro s h; exact .inl h
    | cons e l ih =>
      intro s h
      rw [List.foldl_cons] at h
      rcases ih _ h with h | ⟨e', h1, h2⟩
      · split at h
        · rename_i hb
          rw [Nat.testBit_or, Nat.testBit_or, Bool.or_eq_true, Bool.or_eq_true] at h
          rcases h with (h | h) | h
          · exact .inl h
          · rw [Nat.testBit_two_pow] at h
            exact .inr ⟨e, by simp, hb, .inl (by simpa using h)⟩
          · exact .inr ⟨e, by simp, hb, .inr h⟩
        · exact .inl h
      · exact .inr ⟨e', by simp [h1], h2⟩
  unfold edgeBits at h
  rw [← Array.foldl_toList] at h
  rcases key es.toList 0 h with h | ⟨e, h1, h2⟩
  · simp at h
  · exact ⟨e, by simpa using h1, h2⟩

theorem before_pre : ∀ (l : List Oper) (acc : Array Nat) (i : Nat), i < acc.size → (l.foldl (fun acc o => acc.push (edgeBits acc o.after)) acc).getD i 0 = acc.getD i 0
  | [], acc, i, h => rfl
  | o :: l, acc, i, h => by
    rw [List.foldl_cons, before_pre l _ i (by simp; omega)]
    simp [Array.getElem?_push, Nat.ne_of_lt h]

theorem before_get (acc0 : Array Nat) : ∀ (l m : List Oper) (acc : Array Nat) (o : Oper), acc = m.foldl (fun acc o => acc.push (edgeBits acc o.after)) acc0 → 
    ((o :: l).foldl (fun acc o => acc.push (edgeBits acc o.after)) acc).getD acc.size 0 = edgeBits acc o.after := by
  intro l m acc o _
  rw [List.foldl_cons, before_pre l _ _ (by simp)]
  simp

theorem before_bit {ops : Array Oper} (hok : ∀ (j : Nat) (o : Oper), ops[j]? = some o → ∀ e ∈ o.after, Region.binds .any e = true → e.on < j) {j i : Nat} {o : Oper} (hj : ops[j]? = some o) (h : ((Region.before ops).toList.getD j 0).testBit i = true) :
    ∃ e ∈ o.after, Region.binds .any e = true ∧ (e.on = i ∨ ((Region.before ops).toList.getD e.on 0).testBit i = true) := by
  have hb : Region.before ops = ops.toList.foldl (fun acc o => acc.push (edgeBits acc o.after)) #[] := by
    unfold Region.before
    rw [← Array.foldl_toList]
    rfl
  have hjl : j < ops.toList.length := by simpa using (Array.getElem?_eq_some_iff.1 hj).1
  have hsplit : ops.toList = ops.toList.take j ++ (o :: ops.toList.drop (j + 1)) := by
    have : ops.toList[j] = o := by
      have := (Array.getElem?_eq_some_iff.1 hj).2
      simpa using this
    rw [← this, List.getElem_cons_drop, List.take_append_drop]
  let acc := (ops.toList.take j).foldl (fun acc o => acc.push (edgeBits acc o.after)) #[]
  have hsz : ∀ (l : List Oper) (a : Array Nat), (l.foldl (fun acc o => acc.push (edgeBits acc o.after)) a).size = a.size + l.length := by
    intro l
    induction l with
    | nil => intro a; rfl
    | cons x l ih => intro a; rw [List.foldl_cons, ih]; simp; omega
  have hacc : acc.size = j := by
    show ((ops.toList.take j).foldl _ #[]).size = j
    rw [hsz]
    simp at hjl
    simp
    omega
  have hfull : (Region.before ops) = (o :: ops.toList.drop (j + 1)).foldl (fun acc o => acc.push (edgeBits acc o.after)) acc := by
    rw [hb]
    conv => lhs; rw [hsplit]
    rw [List.foldl_append]
  have hgetd : ∀ (A : Array Nat) (i : Nat), A.toList.getD i 0 = A.getD i 0 := by
    intro A i
    simp [List.getD_eq_getElem?_getD]
  rw [hgetd, hfull] at h
  have := before_get #[] (ops.toList.drop (j + 1)) (ops.toList.take j) acc o rfl
  rw [hacc] at this
  rw [this] at h
  obtain ⟨e, h1, h2, h3⟩ := edgeBits_bit acc o.after i h
  refine ⟨e, h1, h2, h3.imp_right fun h => ?_⟩
  have hlt := hok j o hj e h1 h2
  rw [hgetd, hfull, before_pre _ _ _ (by omega)]
  exact h

theorem aftersOk_spec : ∀ {l : List Oper} {i : Nat}, aftersOk i l = true → ∀ (j : Nat) (o : Oper), l[j]? = some o → ∀ e ∈ o.after, Region.binds .any e = true → e.on < i + j
  | [], _, _, j, o, h, _, _, _ => by simp at h
  | p :: l, i, h, j, o, hj, e, he, hb => by
    simp only [aftersOk, Bool.and_eq_true] at h
    cases j with
    | zero =>
      simp at hj
      subst hj
      have := List.all_eq_true.1 h.1 e (by simpa using he)
      rw [hb] at this
      simpa using this
    | succ j =>
      have := aftersOk_spec h.2 j o (by simpa using hj) e he hb
      omega

theorem calmAgainst_spec {a : Rec} {bf : Nat} : ∀ {l : List Rec} {n : Nat}, calmAgainst a bf n l = true → n + 1 = l.length ∨ l = [] → ∀ (i : Nat) (b : Rec), l.reverse[i]? = some b → bf.testBit i = true ∨ a.calm b = true
  | [], n, _, _, i, b, hi => by simp at hi
  | b :: l, n, h, hn, i, c, hi => by
    simp only [calmAgainst] at h
    obtain ⟨h1, h2⟩ := cond_some (R := Unit) (K := some ()) (r := ()) (c := (bf.testBit n || a.calm b)) (by cases hc : (bf.testBit n || a.calm b) with | true => rfl | false => rw [hc] at h; cases h)
    rw [h1] at h
    simp only [cond_true] at h
    have hn : n = l.length := by
      rcases hn with hn | hn
      · simp at hn; exact hn
      · cases hn
    rw [List.reverse_cons] at hi
    by_cases hl : i < l.length
    · rw [List.getElem?_append_left (by simpa using hl)] at hi
      refine calmAgainst_spec h ?_ i c hi
      left
      omega
    · have hlt := (List.getElem?_eq_some_iff.1 hi).1
      simp at hlt
      have : i = l.length := by omega
      subst this
      rw [List.getElem?_append_right (by simp)] at hi
      simp at hi
      subst hi
      rw [Bool.or_eq_true] at h1
      rw [hn] at h1
      exact h1

theorem calmAll_spec {bs : List Nat} : ∀ {l : List Rec}, calmAll bs l = true → ∀ (i j : Nat) (a b : Rec), i < j → l.reverse[j]? = some a → l.reverse[i]? = some b → (bs.getD j 0).testBit i = true ∨ a.calm b = true
  | [], _, i, j, a, b, _, hj, _ => by simp at hj
  | c :: l, h, i, j, a, b, hij, hj, hi => by
    simp only [calmAll] at h
    have h1 : calmAgainst c (bs.getD l.length 0) (l.length - 1) l = true := by
      cases hc : calmAgainst c (bs.getD l.length 0) (l.length - 1) l with
      | true => rfl
      | false => rw [hc] at h; cases h
    rw [h1] at h
    simp only [cond_true] at h
    have hlt := (List.getElem?_eq_some_iff.1 hj).1
    simp at hlt
    rw [List.reverse_cons] at hi hj
    rw [List.getElem?_append_left (by simp; omega)] at hi
    by_cases hl : j < l.length
    · rw [List.getElem?_append_left (by simpa using hl)] at hj
      exact calmAll_spec h i j a b hij hj hi
    · have : j = l.length := by omega
      subst this
      rw [List.getElem?_append_right (by simp)] at hj
      simp at hj
      subst hj
      refine calmAgainst_spec h1 ?_ i b hi
      cases l with
      | nil => exact .inr rfl
      | cons => left; simp

/-! ### states that agree -/
structure Agree (rc : Rec) (σ σ' : St) : Prop where
  s : ∀ t ∈ rc.rd, σ.s t = σ'.s t
  h : ∀ id ∈ rc.ci, σ.h id = σ'.h id

section
variable {P : Program} {F : Fx} {σ σ' : St} {a : Act} {w : World} {g : Gh} {R : Type} {tt : List (Nat × TD)} {env : List Ct} {k : Nat} {o : Oper} {H : Nat → RE} {y : R} {B : St} {N : Nat} {ops : Array Oper}

theorem restrict_congr {l : List Nat} {h h' : Nat → RE} (hh : ∀ id ∈ l, h id = h' id) : restrict l h = restrict l h' := by
  funext id
  unfold restrict
  cases hm : memB l id with
  | true => exact hh id (memB_iff.1 hm)
  | false => rfl

theorem ev_congr {l : List Operand} (hs : ∀ t ∈ (l.filterMap fun | .tmp t => some t | _ => none), σ.s t = σ'.s t) : l.map σ.ev = l.map σ'.ev := by
  refine List.map_congr_left fun x hx => ?_
  cases x with
  | tmp t => exact hs t (List.mem_filterMap.2 ⟨.tmp t, hx, rfl⟩)
  | const v => rfl
  | global _ => rfl
  | func f => rfl

theorem flatMap_congr' {α β : Type} {f f' : α → List β} : ∀ {l : List α}, (∀ x ∈ l, f x = f' x) → l.flatMap f = l.flatMap f'
  | [], _ => rfl
  | x :: l, h => by rw [List.flatMap_cons, List.flatMap_cons, h x (by simp), flatMap_congr' (fun y hy => h y (by simp [hy]))]

theorem consult_congr {d : Option Nat} {vs : List SV} {h h' : Nat → RE} (hh : ∀ id ∈ consult h d vs, h id = h' id) : consult h d vs = consult h' d vs := by
  have : ((vs.flatMap SV.all).flatMap CV.ids).flatMap (fun id => match (h id).c with | .var cs => cs.flatMap CV.ids | _ => []) = ((vs.flatMap SV.all).flatMap CV.ids).flatMap (fun id => match (h' id).c with | .var cs => cs.flatMap CV.ids | _ => []) := by
    refine flatMap_congr' fun id hid => ?_
    have : h id = h' id := hh id (by unfold consult; exact List.mem_append_left _ hid)
    rw [this]
  exact congrArg (fun b => (vs.flatMap SV.all).flatMap CV.ids ++ (b ++ (List.range 16).map (nid d))) this

theorem RunOk.agree {d : Upd} {rc : Rec} {rd : List Nat} (h : RunOk tt env k o σ d rc rd) (hs : ∀ t ∈ rc.rd, σ.s t = σ'.s t) (hh : ∀ id ∈ rc.ci, σ.h id = σ'.h id) : RunOk tt env k o σ' d rc rd := by
  obtain ⟨h1, h2⟩ := h
  have hev : o.op.operands.toList.map σ.ev = o.op.operands.toList.map σ'.ev := ev_congr (fun t ht => hs t (by rw [h2]; exact List.mem_append_right _ ht))
  have hci : rc.ci = consult σ.h o.dst (o.op.operands.toList.map σ.ev) := by rw [h2]
  rw [hci] at hh
  have hc := consult_congr hh
  have hr := restrict_congr hh
  constructor
  · rw [← hev, ← hc, ← hr]
    exact h1
  · rw [h2, ← hev, ← hc]

theorem StepOk.agree {d : Upd} {rc : Rec} (h : StepOk tt env k B N ops o σ d rc) (ha : Agree rc σ σ') : StepOk tt env k B N ops o σ' d rc := by
  obtain ⟨h1, h⟩ := h
  refine ⟨h1, ?_⟩
  rcases h with ⟨hg, hr⟩ | ⟨j, want, t, hg, ht, h⟩
  · exact .inl ⟨hg, hr.agree ha.s ha.h⟩
  · refine .inr ⟨j, want, t, hg, ht, ?_⟩
    have htm : t ∈ rc.rd := by
      rcases h with ⟨_, _, hr⟩ | ⟨_, _, hr⟩ <;> rw [hr] <;> simp
    have hst := ha.s t htm
    rcases h with ⟨hb, hr⟩ | ⟨hb, hd, hr⟩
    · exact .inl ⟨by rw [← hst]; exact hb, hr.agree ha.s ha.h⟩
    · exact .inr ⟨by rw [← hst]; exact hb, hd, hr⟩

theorem StepOk.rec_wr {d : Upd} {rc : Rec} (h : StepOk tt env k B N ops o σ d rc) : rc.wr = o.dst ∧ rc.wi = d.hs.map (·.1) := by
  obtain ⟨_, h⟩ := h
  rcases h with ⟨_, _, hr⟩ | ⟨_, _, _, _, _, ⟨_, _, hr⟩ | ⟨_, hd, hr⟩⟩
  · rw [hr]; exact ⟨rfl, rfl⟩
  · rw [hr]; exact ⟨rfl, rfl⟩
  · rw [hr, hd]; exact ⟨rfl, rfl⟩

theorem upd_s (σ : St) (dst : Option Nat) (d : Upd) (t : Nat) : (σ.upd dst d).s t = if dst = some t then d.v else σ.s t := by
  unfold St.upd
  cases dst with
  | none => simp [St.put]
  | some e =>
    show (bif Nat.beq t e then d.v else σ.s t) = _
    by_cases h : t = e
    · subst h; simp
    · have hb : Nat.beq t e = false := by
        cases hb : Nat.beq t e with
        | false => rfl
        | true => exact absurd (Nat.eq_of_beq_eq_true hb) h
      rw [hb, if_neg (fun he => h (by cases he; rfl))]
      rfl
theorem upd_h (σ : St) (dst : Option Nat) (d : Upd) : (σ.upd dst d).h = setH σ.h d.hs := by
  unfold St.upd
  cases dst <;> rfl
theorem setH_not (h : Nat → RE) : ∀ {l : List (Nat × RE)} {id : Nat}, id ∉ l.map (·.1) → setH h l id = h id
  | [], _, _ => rfl
  | (i, r) :: l, id, hm => by
    rw [setH_cons, if_neg (fun e => hm (by simp [e])), setH_not h (fun h => hm (by simp [h]))]
theorem setH_in (h h' : Nat → RE) : ∀ {l : List (Nat × RE)} {id : Nat}, id ∈ l.map (·.1) → setH h l id = setH h' l id
  | [], _, hm => by simp at hm
  | (i, r) :: l, id, hm => by
    rw [setH_cons, setH_cons]
    split
    · rfl
    · rename_i hne
      exact setH_in h h' (by simpa [hne] using hm)

/-- Apart: what the one writes, the other neither reads nor writes. -/
structure Apart (rc : Rec) (dst : Option Nat) (d : Upd) : Prop where
  rd : ∀ t, dst = some t → t ∉ rc.rd
  wr : ∀ t, dst = some t → rc.wr ≠ some t
  ci : ∀ id ∈ d.hs.map (·.1), id ∉ rc.ci
  wi : ∀ id ∈ d.hs.map (·.1), id ∉ rc.wi

theorem calm1_spec {a b : Rec} (h : a.calm1 b = true) : (∀ t, a.wr = some t → t ∉ b.rd) ∧ (∀ t, a.wr = some t → b.wr ≠ some t) ∧ (∀ id ∈ a.wi, id ∉ b.ci) ∧ (∀ id ∈ a.wi, id ∉ b.wi) := by
  unfold Rec.calm1 at h
  rw [Bool.and_eq_true, Bool.and_eq_true] at h
  obtain ⟨h1, h2, h3⟩ := h
  refine ⟨?_, ?_, disB_mem h2, disB_mem h3⟩
  · intro t ht hm
    rw [ht] at h1
    simp only [Bool.and_eq_true, Bool.not_eq_true'] at h1
    rw [memB_iff.2 hm] at h1
    exact absurd h1.1 (by simp)
  · intro t ht hb
    rw [ht] at h1
    simp only [Bool.and_eq_true, Bool.not_eq_true'] at h1
    rw [hb] at h1
    simp at h1

theorem Agree.apart {rc : Rec} {dst : Option Nat} {d : Upd} (ha : Apart rc dst d) {σ σ' : St} (h : Agree rc σ σ') : Agree rc σ (σ'.upd dst d) := by
  constructor
  · intro t ht
    rw [upd_s, if_neg (fun e => ha.rd t e ht)]
    exact h.s t ht
  · intro id hid
    rw [upd_h, setH_not _ (fun hm => ha.ci id hm hid)]
    exact h.h id hid
theorem Agree.symm {rc : Rec} {σ σ' : St} (h : Agree rc σ σ') : Agree rc σ' σ := ⟨fun t ht => (h.s t ht).symm, fun id hid => (h.h id hid).symm⟩
theorem Agree.both {rc : Rec} {dst : Option Nat} {d : Upd} {σ σ' : St} (h : Agree rc σ σ') : Agree rc (σ.upd dst d) (σ'.upd dst d) := by
  constructor
  · intro t ht
    rw [upd_s, upd_s]
    split
    · rfl
    · exact h.s t ht
  · intro id hid
    rw [upd_h, upd_h]
    by_cases hm : id ∈ d.hs.map (·.1)
    · exact setH_in _ _ hm
    · rw [setH_not _ hm, setH_not _ hm]
      exact h.h id hid

theorem upd_comm {d1 d2 : Option Nat} {u1 u2 : Upd} (h1 : ∀ t, d1 = some t → d2 ≠ some t) (h2 : ∀ id ∈ u1.hs.map (·.1), id ∉ u2.hs.map (·.1)) (σ : St) : (σ.upd d1 u1).upd d2 u2 = (σ.upd d2 u2).upd d1 u1 := by
  have hs : ((σ.upd d1 u1).upd d2 u2).s = ((σ.upd d2 u2).upd d1 u1).s := by
    funext t
    rw [upd_s, upd_s, upd_s, upd_s]
    by_cases e1 : d1 = some t
    · rw [if_pos e1, if_pos e1, if_neg (h1 t e1)]
    · rw [if_neg e1, if_neg e1]
  have hh : ((σ.upd d1 u1).upd d2 u2).h = ((σ.upd d2 u2).upd d1 u1).h := by
    rw [upd_h, upd_h, upd_h, upd_h]
    funext id
    by_cases e1 : id ∈ u1.hs.map (·.1)
    · rw [setH_not _ (h2 id e1), setH_in (setH σ.h u2.hs) σ.h e1]
    · by_cases e2 : id ∈ u2.hs.map (·.1)
      · rw [setH_not (setH σ.h u2.hs) e1, setH_in (setH σ.h u1.hs) σ.h e2]
      · rw [setH_not _ e2, setH_not _ e1, setH_not _ e1, setH_not _ e2]
  cases ha : (σ.upd d1 u1).upd d2 u2
  cases hb : (σ.upd d2 u2).upd d1 u1
  rw [ha, hb] at hs hh
  simp only at hs hh
  rw [hs, hh]
end
end VM
