/- Any order comes to the same. -/
import Derived.Test.YtljofbhokcdklaaVMv
set_option linter.unusedVariables false
set_option linter.unusedSimpArgs false
namespace VM
open Go

abbrev Row3 := Oper × Upd × Rec

def foldS (S : Nat → Bool) : Nat → List Row3 → St → St
  | _, [], σ => σ
  | i, x :: l, σ => foldS S (i + 1) l (if S i = true then σ.upd x.1.dst x.2.1 else σ)

theorem foldS_append (S : Nat → Bool) : ∀ (l m : List Row3) (i : Nat) (σ : St), foldS S i (l ++ m) σ = foldS S (i + l.length) m (foldS S i l σ)
  | [], m, i, σ => rfl
  | x :: l, m, i, σ => by
    rw [List.cons_append, foldS, foldS, foldS_append S l m (i + 1), List.length_cons]
    congr 1
    omega

theorem foldS_congr {S S' : Nat → Bool} : ∀ (l : List Row3) (i : Nat) (σ : St), (∀ j, j < l.length → S (i + j) = S' (i + j)) → foldS S i l σ = foldS S' i l σ
  | [], i, σ, _ => rfl
  | x :: l, i, σ, h => by
    rw [foldS, foldS, show S i = S' i from h 0 (by simp)]
    refine foldS_congr l (i + 1) _ fun j hj => ?_
    have := h (j + 1) (by simp; omega)
    rwa [show i + 1 + j = i + (j + 1) by omega]

theorem foldS_false {S : Nat → Bool} : ∀ (l : List Row3) (i : Nat) (σ : St), (∀ j, S j = false) → foldS S i l σ = σ
  | [], i, σ, _ => rfl
  | x :: l, i, σ, h => by rw [foldS, h i, if_neg (by simp), foldS_false l (i + 1) σ h]

theorem foldS_agree {rc : Rec} {S S' : Nat → Bool} : ∀ (l : List Row3) (i : Nat) (σ σ' : St), Agree rc σ σ' → (∀ j x, l[j]? = some x → S (i + j) = S' (i + j) ∨ Apart rc x.1.dst x.2.1) → Agree rc (foldS S i l σ) (foldS S' i l σ')
  | [], i, σ, σ', h, _ => h
  | x :: l, i, σ, σ', h, hx => by
    rw [foldS, foldS]
    refine foldS_agree l (i + 1) _ _ ?_ fun j y hy => ?_
    · rcases hx 0 x (by simp) with h0 | h0
      · simp only [Nat.add_zero] at h0
        rw [h0]
        split
        · exact h.both
        · exact h
      · split <;> split
        · exact h.both
        · exact (Agree.apart h0 h.symm).symm
        · exact Agree.apart h0 h
        · exact h
    · have := hx (j + 1) y (by simpa using hy)
      rwa [show i + 1 + j = i + (j + 1) by omega]

theorem foldS_comm {S : Nat → Bool} {dst : Option Nat} {d : Upd} : ∀ (l : List Row3) (i : Nat) (σ : St),
    (∀ j x, l[j]? = some x → S (i + j) = true → (∀ t, dst = some t → x.1.dst ≠ some t) ∧ (∀ id ∈ d.hs.map (·.1), id ∉ x.2.1.hs.map (·.1))) → foldS S i l (σ.upd dst d) = (foldS S i l σ).upd dst d
  | [], i, σ, _ => rfl
  | x :: l, i, σ, h => by
    rw [foldS, foldS]
    have tail : ∀ σ, foldS S (i + 1) l (σ.upd dst d) = (foldS S (i + 1) l σ).upd dst d := fun σ => foldS_comm l (i + 1) σ fun j y hy hs => by
      refine h (j + 1) y (by simpa using hy) ?_
      rwa [show i + (j + 1) = i + 1 + j by omega]
    split
    · rename_i hs
      obtain ⟨h1, h2⟩ := h 0 x (by simp) hs
      rw [upd_comm h1 h2, tail]
    · exact tail σ

theorem countP_strict {α : Type} {p q : α → Bool} : ∀ {l : List α}, (∀ x ∈ l, q x = true → p x = true) → (∃ x ∈ l, p x = true ∧ q x = false) → l.countP q < l.countP p
  | [], _, ⟨x, hx, _⟩ => by simp at hx
  | y :: l, h, ⟨x, hx, hp, hq⟩ => by
    have hle : l.countP q ≤ l.countP p := List.countP_mono_left (fun z hz => h z (by simp [hz]))
    rw [List.countP_cons, List.countP_cons]
    rcases List.mem_cons.1 hx with rfl | hx
    · rw [if_pos hp, if_neg (by simp [hq])]
      omega
    · have := countP_strict (fun z hz => h z (by simp [hz])) ⟨x, hx, hp, hq⟩
      by_cases hy : q y = true
      · rw [if_pos hy, if_pos (h y (by simp) hy)]
        omega
      · rw [if_neg hy]
        split <;> omega

section
variable {P : Program} {F : Fx} {σ σ' : St} {a : Act} {w : World} {g : Gh} {R : Type} {tt : List (Nat × TD)} {env : List Ct} {k : Nat} {o : Oper} {H : Nat → RE} {y : R} {B : St} {N : Nat} {ops : Array Oper}

theorem Chain.rows {rest : List Oper} {l : List (Upd × Rec)} (h : Chain tt env k B N ops rest σ l σ') : ∀ i, ∃ L : List Row3, L.map (·.1) = rest ∧ L.map (·.2) = l ∧ foldS (fun _ => true) i L σ = σ' ∧
    ∀ j x, L[j]? = some x → StepOk tt env k B N ops x.1 (foldS (fun _ => true) i (L.take j) σ) x.2.1 x.2.2 := by
  induction h with
  | nil σ => exact fun i => ⟨[], rfl, rfl, rfl, by simp⟩
  | cons hs hc ih =>
    rename_i o rest σ σ' d rc l
    intro i
    obtain ⟨L, h1, h2, h3, h4⟩ := ih (i + 1)
    refine ⟨(o, d, rc) :: L, by rw [List.map_cons, h1], by rw [List.map_cons, h2], h3, ?_⟩
    intro j x hx
    cases j with
    | zero =>
      simp at hx
      subst hx
      exact hs
    | succ j =>
      exact h4 j x (by simpa using hx)

theorem Chain.any {Q : Exit → Act → World → Prop} (htt : TTok P tt) (henv : EnvOk P env) (hF : FOk F) {L : List Row3} (hL : L.map (·.1) = ops.toList)
    (hstep : ∀ j x, L[j]? = some x → StepOk tt env k F.B F.N ops x.1 (foldS (fun _ => true) 0 (L.take j) σ) x.2.1 x.2.2)
    (hcalm : ∀ (i j : Nat) (x z : Row3), i < j → L[j]? = some x → L[i]? = some z → ((Region.before ops).toList.getD j 0).testBit i = true ∨ x.2.2.calm z.2.2 = true)
    (haft : ∀ (j : Nat) (o : Oper), ops[j]? = some o → ∀ e ∈ o.after, Region.binds .any e = true → e.on < j)
    (hQ : ∀ a' w' g', Rl F (foldS (fun _ => true) 0 L σ) a' w' g' → Q .normal a' w') :
    ∀ (fuel : Nat) (listed : Array Bool), listed.size = ops.size → (List.range ops.size).countP (fun i => !listed.getD i true) ≤ fuel →
      (∀ j o, ops[j]? = some o → listed.getD j true = true → ∀ e ∈ o.after, Region.binds .any e = true → listed.getD e.on false = true) →
      ∀ (a : Act) (w : World) (g : Gh), Rl F (foldS (fun i => listed.getD i true) 0 L σ) a w g → wpAny P .any ops Q fuel listed a w := by
  have hlen : L.length = ops.size := by
    have := congrArg List.length hL
    simpa using this
  have hget : ∀ (i : Nat) (o : Oper), ops[i]? = some o → ∃ (d : Upd) (rc : Rec), L[i]? = some (o, d, rc) := by
    intro i o ho
    have h1 : (L.map (·.1))[i]? = some o := by rw [hL]; simpa using ho
    rw [List.getElem?_map] at h1
    obtain ⟨⟨o', d, rc⟩, h2, h3⟩ := Option.map_eq_some_iff.1 h1
    simp only at h3
    subst h3
    exact ⟨d, rc, h2⟩
  have hopget : ∀ (i : Nat) (x : Row3), L[i]? = some x → ops[i]? = some x.1 := by
    intro i x hx
    have h1 : (L.map (·.1))[i]? = some x.1 := by rw [List.getElem?_map, hx]; rfl
    rw [hL] at h1
    simpa using h1
  have apart_of : ∀ {x z : Row3} {j : Nat}, L[j]? = some x → x.2.2.calm z.2.2 = true → Apart z.2.2 x.1.dst x.2.1 := by
    intro x z j hx hc
    unfold Rec.calm at hc
    rw [Bool.and_eq_true] at hc
    obtain ⟨c1, c2, c3, c4⟩ := calm1_spec hc.1
    obtain ⟨w1, w2⟩ := (hstep j x hx).rec_wr
    rw [w1] at c1 c2
    rw [w2] at c3 c4
    exact ⟨c1, c2, c3, c4⟩
  have calm_symm : ∀ {x z : Row3}, x.2.2.calm z.2.2 = true → z.2.2.calm x.2.2 = true := by
    intro x z h
    unfold Rec.calm at *
    rw [Bool.and_eq_true] at *
    exact ⟨h.2, h.1⟩
  -- what is listed is closed under what must stand before
  have closed : ∀ (listed : Array Bool), listed.size = ops.size → (∀ j o, ops[j]? = some o → listed.getD j true = true → ∀ e ∈ o.after, Region.binds .any e = true → listed.getD e.on false = true) →
      ∀ (j : Nat), ∀ o, ops[j]? = some o → listed.getD j false = true → ∀ i, ((Region.before ops).toList.getD j 0).testBit i = true → listed.getD i false = true := by
    intro listed hsz hcl j
    induction j using Nat.strongRecOn with
    | ind j ih =>
      intro o ho hj i hb
      have hj' : listed.getD j true = true := by
        have hlt : j < listed.size := by rw [hsz]; exact (Array.getElem?_eq_some_iff.1 ho).1
        simp [hlt] at hj ⊢
        exact hj
      obtain ⟨e, h1, h2, h3⟩ := before_bit haft ho hb
      have h4 := hcl j o ho hj' e h1 h2
      rcases h3 with h3 | h3
      · rw [← h3]; exact h4
      · have hlt := haft j o ho e h1 h2
        have hjl : j < ops.size := (Array.getElem?_eq_some_iff.1 ho).1
        exact ih e.on hlt ops[e.on] (by first | (simp; done) | (simp; omega)) h4 i h3
  have tf : ∀ (listed : Array Bool) (i : Nat), listed.getD i false = true → listed.getD i true = true := by
    intro listed i h
    cases hc : listed[i]? with
    | none => simp [hc]
    | some b => simp [hc] at h ⊢; exact h
  have ft : ∀ (listed : Array Bool) (i : Nat), listed.size = ops.size → i < ops.size → listed.getD i true = true → listed.getD i false = true := by
    intro listed i hsz hi h
    have hlt : i < listed.size := by omega
    simp [hlt] at h ⊢
    exact h
  have alldone : ∀ (listed : Array Bool), listed.size = ops.size → Region.ready .any ops listed = [] → ∀ i, i < ops.size → listed.getD i true = true := by
    intro listed hsz hr i
    induction i using Nat.strongRecOn with
    | ind i ih =>
      intro hi
      cases hc : listed.getD i true with
      | true => rfl
      | false =>
        exfalso
        have : i ∈ Region.ready .any ops listed := by
          rw [mem_ready]
          refine ⟨hc, ops[i], by simp [hi], fun e he hb => ?_⟩
          have hlt := haft i ops[i] (by simp [hi]) e he hb
          exact ft listed e.on hsz (by omega) (ih e.on hlt (by omega))
        rw [hr] at this
        simp at this
  intro fuel
  induction fuel with
  | zero =>
    intro listed hsz hcount hcl a w g r
    have hall : ∀ i, i < ops.size → listed.getD i true = true := by
      intro i hi
      cases hc : listed.getD i true with
      | true => rfl
      | false =>
        have h0 : (List.range ops.size).countP (fun i => !listed.getD i true) = 0 := by omega
        rw [List.countP_eq_zero] at h0
        have := h0 i (List.mem_range.2 hi)
        rw [hc] at this
        simp at this
    refine ⟨?_, ?_⟩
    · rw [List.eq_nil_iff_forall_not_mem]
      intro i hi
      obtain ⟨h1, o, ho, _⟩ := mem_ready.1 hi
      rw [hall i (Array.getElem?_eq_some_iff.1 ho).1] at h1
      cases h1
    · refine hQ a w g ?_
      rw [foldS_congr (S' := fun i => listed.getD i true)]
      · exact r
      · intro j hj
        rw [Nat.zero_add, hall j (by omega)]
  | succ fuel ih =>
    intro listed hsz hcount hcl a w g r
    refine ⟨fun hr => ?_, fun i hi => ?_⟩
    · refine hQ a w g ?_
      rw [foldS_congr (S' := fun i => listed.getD i true)]
      · exact r
      · intro j hj
        rw [Nat.zero_add, alldone listed hsz hr j (by omega)]
    · obtain ⟨hnl, o, ho, hedges⟩ := mem_ready.1 hi
      have hilt : i < ops.size := (Array.getElem?_eq_some_iff.1 ho).1
      obtain ⟨d, rc, hLi⟩ := hget i o ho
      have hiL : i < L.length := by omega
      have hsplit : L = L.take i ++ ((o, d, rc) :: L.drop (i + 1)) := by
        have : L[i] = (o, d, rc) := (List.getElem?_eq_some_iff.1 hLi).2
        rw [← this, List.getElem_cons_drop, List.take_append_drop]
      have htl : (L.take i).length = i := by rw [List.length_take]; omega
      let S : Nat → Bool := fun i => listed.getD i true
      have hcl2 := closed listed hsz hcl
      have hbi : ∀ j, ((Region.before ops).toList.getD i 0).testBit j = true → listed.getD j false = true := by
        intro j hb
        obtain ⟨e, h1, h2, h3⟩ := before_bit haft ho hb
        have h4 := hedges e h1 h2
        rcases h3 with h3 | h3
        · rw [← h3]; exact h4
        · have hlt := haft i o ho e h1 h2
          exact hcl2 e.on ops[e.on] (by first | (simp; done) | (simp; omega)) h4 j h3
      -- apart from what comes later and is listed
      have later : ∀ (j : Nat) (x : Row3), L[j]? = some x → i < j → S j = true → x.2.2.calm rc = true := by
        intro j x hx hij hs
        rcases hcalm i j x (o, d, rc) hij hx hLi with hb | hc
        · have hjl : j < ops.size := by have := (List.getElem?_eq_some_iff.1 hx).1; omega
          have := hcl2 j x.1 (hopget j x hx) (ft listed j hsz hjl hs) i hb
          have := tf listed i this
          rw [hnl] at this
          cases this
        · exact hc
      have earlier : ∀ (j : Nat) (x : Row3), L[j]? = some x → j < i → S j = false → x.2.2.calm rc = true := by
        intro j x hx hij hs
        rcases hcalm j i (o, d, rc) x hij hLi hx with hb | hc
        · have := tf listed j (hbi j hb)
          have hs : listed.getD j true = false := hs
          rw [hs] at this
          cases this
        · exact calm_symm hc
      have hbase := hstep i (o, d, rc) hLi
      have hfold : foldS S 0 L σ = foldS S (i + 1) (L.drop (i + 1)) (foldS S 0 (L.take i) σ) := by
        conv => lhs; rw [hsplit]
        rw [foldS_append, htl, Nat.zero_add, foldS]
        have : S i = false := hnl
        rw [this, if_neg (by simp)]
      have hagree : Agree rc (foldS (fun _ => true) 0 (L.take i) σ) (foldS S 0 L σ) := by
        rw [hfold]
        have h1 : Agree rc (foldS (fun _ => true) 0 (L.take i) σ) (foldS S 0 (L.take i) σ) := by
          refine foldS_agree _ 0 _ _ ⟨fun _ _ => rfl, fun _ _ => rfl⟩ fun j x hx => ?_
          rw [Nat.zero_add]
          have hji : j < i := by have := (List.getElem?_eq_some_iff.1 hx).1; omega
          have hx' : L[j]? = some x := by rw [List.getElem?_take, if_pos hji] at hx; exact hx
          cases hs : S j with
          | true => exact .inl rfl
          | false => exact .inr (apart_of (z := (o, d, rc)) hx' (earlier j x hx' hji hs))
        have h2 := foldS_agree (S := fun _ => false) (S' := S) (L.drop (i + 1)) (i + 1) _ _ h1 (fun j x hx => by
          rw [List.getElem?_drop] at hx
          cases hs : S (i + 1 + j) with
          | false => exact .inl rfl
          | true => exact .inr (apart_of (z := (o, d, rc)) hx (later _ x hx (by omega) hs)))
        rwa [foldS_false _ _ _ (fun _ => rfl)] at h2
      refine StepOk.sound htt henv hF ho (hbase.agree hagree) r fun a' w' g' r' => ?_
      have hnew : foldS (fun j => (listed.setIfInBounds i true).getD j true) 0 L σ = (foldS S 0 L σ).upd o.dst d := by
        rw [hfold]
        conv => lhs; rw [hsplit]
        have hil : i < listed.size := by omega
        have hii : (listed.setIfInBounds i true).getD i true = true := by simp [hil]
        rw [foldS_append, htl, Nat.zero_add, foldS, hii, if_pos rfl]
        have e1 : foldS (fun j => (listed.setIfInBounds i true).getD j true) 0 (L.take i) σ = foldS S 0 (L.take i) σ := foldS_congr _ _ _ fun j hj => by
          rw [Nat.zero_add]
          exact getD_set_ne true (by rw [htl] at hj; omega)
        have e2 : ∀ σ, foldS (fun j => (listed.setIfInBounds i true).getD j true) (i + 1) (L.drop (i + 1)) σ = foldS S (i + 1) (L.drop (i + 1)) σ := fun σ => foldS_congr _ _ _ fun j hj => getD_set_ne true (by omega)
        rw [e1, e2]
        refine foldS_comm _ _ _ fun j x hx hs => ?_
        rw [List.getElem?_drop] at hx
        have hc := calm_symm (z := (o, d, rc)) (later _ x hx (by omega) hs)
        have := apart_of (z := x) hLi hc
        obtain ⟨w1, w2⟩ := (hstep _ x hx).rec_wr
        refine ⟨fun t ht => ?_, fun id hid => ?_⟩
        · rw [← w1]; exact this.wr t ht
        · rw [← w2]; exact this.wi id hid
      refine ih (listed.setIfInBounds i true) (by simpa using hsz) ?_ ?_ a' w' g' (by rw [hnew]; exact r')
      · have hil : i < listed.size := by omega
        have : (List.range ops.size).countP (fun j => !(listed.setIfInBounds i true).getD j true) < (List.range ops.size).countP (fun i => !listed.getD i true) := by
          refine countP_strict (fun j _ hq => ?_) ⟨i, List.mem_range.2 hilt, by rw [hnl]; rfl, by simp [hil]⟩
          by_cases hij : i = j
          · subst hij
            simp [hil] at hq
          · rwa [getD_set_ne true hij] at hq
        omega
      · intro j o' ho' hj e he hb
        by_cases hij : i = j
        · subst hij
          rw [ho] at ho'
          cases ho'
          exact getD_set_true (hedges e he hb)
        · rw [getD_set_ne true hij] at hj
          exact getD_set_true (hcl j o' ho' hj e he hb)
end
end VM
