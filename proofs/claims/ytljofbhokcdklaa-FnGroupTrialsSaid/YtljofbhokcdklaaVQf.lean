/- What the functions of GroupTrial compute. -/
import Derived.Test.YtljofbhokcdklaaGVa
import Derived.Test.YtljofbhokcdklaaVQd
set_option linter.unusedVariables false
set_option linter.unusedSimpArgs false
namespace VM
open Go

def okW (k : Nat) (e : Ent) : Bool := isC k e.1 && inB e.2.1 (-1000000000000) 1000000000000
def addT (k : Nat) (a b : List Ent) : List Ent × Bool := if (a ++ b).all (okW k) = true then (adds (a ++ b), true) else ([], false)
def SmK (l : List Ent) : Prop := ∀ e ∈ l, e.1.length ≤ 1048576

theorem okW_ok {k : Nat} {l : List Ent} (h : l.all (okW k) = true) : AllI l := by
  rw [List.all_eq_true] at h
  intro e he
  have := h e he
  simp only [okW, inB, Bool.and_eq_true, decide_eq_true_eq] at this
  unfold EntOk I64
  omega

theorem fold_keys : ∀ (es r : List Ent) (e : Ent), e ∈ es.foldl (fun r e => addE r e.1 e.2.1) r → (∃ x ∈ r, x.1 = e.1) ∨ ∃ x ∈ es, x.1 = e.1
  | [], r, e, h => .inl ⟨e, h, rfl⟩
  | y :: es, r, e, h => by
    rcases fold_keys es _ e h with ⟨x, hx, he⟩ | ⟨x, hx, he⟩
    · rcases mem_addE hx with hx | ⟨hx, _⟩
      · exact .inl ⟨x, hx, he⟩
      · exact .inr ⟨y, by simp, by rw [← he, hx]⟩
    · exact .inr ⟨x, by simp [hx], he⟩
theorem adds_SmK {l : List Ent} (h : SmK l) : SmK (adds l) := by
  intro e he
  rcases fold_keys l [] e he with ⟨x, hx, _⟩ | ⟨x, hx, hxe⟩
  · simp at hx
  · rw [← hxe]; exact h x hx
theorem adds_AllI {l : List Ent} (h : AllI l) : AllI (adds l) := (adds_spec l h).2.2.1

theorem impl_Add_eq {k : Nat} (hk : 1048577 < k) {a b : List Ent} (hl : a.length + b.length ≤ 1001) (ha : SmK a) (hb : SmK b) : VF.impl_AddEntries k a b = some (((addT k a b).1, (addT k a b).2, ()), ()) := by
  unfold VF.impl_AddEntries addT
  have f1 : ∀ m, m ≤ 1048576 + 2 → fits m 24 = true := fun m hm => fits_of (by omega) (by omega)
  have hw : IntKind.wrap .i64 ((a.length : Int) + (b.length : Int)) = (a.length : Int) + (b.length : Int) := w64 (by omega) (by omega)
  have h0 : decide ((1001 : Int) < IntKind.wrap .i64 ((a.length : Int) + (b.length : Int))) = false := by rw [hw]; simp; omega
  simp only [h0, sel_false, join_eq, List.nil_append]
  rw [f1 _ (by omega), grd_true, f1 _ (by omega), grd_true]
  have hsm : SmK (a ++ b) := fun e he => (List.mem_append.1 he).elim (ha e) (hb e)
  have hlen : (a ++ b).length ≤ 1001 := by simp; omega
  generalize a ++ b = l at hsm hlen
  unfold VF.impl_AddEntries.j2
  rw [join_eq]
  have h1 := iter_allf (s := VF.impl_AddEntries.l1 k (VF.impl_AddEntries.j0 k)) (fun (_ : Unit) i => (l, l, (l.length : Int), (i : Int))) l (fun _ x => okW k x) (fun s _ => s) (some (([], false, ()), ())) (fun _ => VF.impl_AddEntries.j0 k l) (fun _ _ => True)
    (fun _ _ _ _ _ _ _ => trivial)
    (fun ih u pre x post hx _ => by
      have hpl : pre.length < 1099511627776 := by have := congrArg List.length hx; simp at this; omega
      have hxl := hsm x (by rw [hx]; simp)
      rw [hx]
      simp only [VF.impl_AddEntries.l1, lt_mid, sel_true, inb_mid, grd_true, rdL_mid, isCode_same, isC_eq (k := k) (s := x.1) (by omega) (by omega), in_eq, bnd_some', wnext hpl, okW]
      cases isC k x.1 <;> cases inB x.2.1 (-1000000000000) 1000000000000 <;> rfl)
    (fun ih u _ => by simp [VF.impl_AddEntries.l1])
    (k := k) (by omega) (a := ()) trivial
  rw [show ((0 : Nat) : Int) = 0 from rfl] at h1
  rw [h1, allP_all]
  cases hall : l.all (okW k) with
  | false => rfl
  | true =>
    simp only [sel_true, VF.impl_AddEntries.j0, if_true]
    rw [totals_eq (by omega) (by omega), bnd_some', tots_eq _ (okW_ok hall)]

/-- The element at a place of two lists, one behind the other. -/
theorem two_at {α : Type} {a b pre post : List α} {x : α} (d : α) (h : a ++ b = pre ++ x :: post) :
    (pre.length < a.length ∧ inb a (pre.length : Int) = true ∧ rdL a (pre.length : Int) d = x) ∨
    (a.length ≤ pre.length ∧ inb b ((pre.length : Int) - (a.length : Int)) = true ∧ rdL b ((pre.length : Int) - (a.length : Int)) d = x) := by
  have hx : (a ++ b)[pre.length]? = some x := by rw [h]; simp
  rcases Nat.lt_or_ge pre.length a.length with hlt | hge
  · left
    rw [List.getElem?_append_left hlt] at hx
    refine ⟨hlt, by simp [inb]; omega, ?_⟩
    simp [rdL, List.getD_eq_getElem?_getD, hx]
  · right
    rw [List.getElem?_append_right hge] at hx
    have hbl := (List.getElem?_eq_some_iff.1 hx).1
    have e : ((pre.length : Int) - (a.length : Int)) = ((pre.length - a.length : Nat) : Int) := by omega
    rw [e]
    refine ⟨hge, by simp [inb]; omega, ?_⟩
    simp only [rdL, Int.toNat_natCast]
    simp [List.getD_eq_getElem?_getD, hx]

theorem spec_Add_eq {k : Nat} (hk : 1048577 < k) {a b : List Ent} (hl : a.length + b.length ≤ 1001) (ha : SmK a) (hb : SmK b) : VF.spec_AddEntries k a b = some (((addT k a b).1, (addT k a b).2, ()), ()) := by
  unfold VF.spec_AddEntries addT
  rw [join_eq]
  have hsm : SmK (a ++ b) := fun e he => (List.mem_append.1 he).elim (ha e) (hb e)
  have hw : IntKind.wrap .i64 ((a.length : Int) + (b.length : Int)) = (((a ++ b).length : Nat) : Int) := by rw [w64 (by omega) (by omega)]; simp
  have hlen : (a ++ b).length ≤ 1001 := by simp; omega
  have h1 := iter_allf (s := VF.spec_AddEntries.l4 k a b VF.spec_AddEntries.j0) (fun (r : List Ent) i => (r, (i : Int))) (a ++ b) (fun _ x => okW k x) (fun r e => addE r e.1 e.2.1) (some (([], false, ()), ())) VF.spec_AddEntries.j0 (fun pre r => r.length ≤ pre.length)
    (fun r pre x post hx hr _ => by
      have := addE_length r x.1 x.2.1
      simp only [List.length_append, List.length_cons, List.length_nil]
      omega)
    (fun ih r pre x post hx hr => by
      have hpl : pre.length ≤ 1000 := by have := congrArg List.length hx; simp at this; omega
      have hxl := hsm x (by rw [hx]; simp)
      have g1 : decide ((pre.length : Int) < (((a ++ b).length : Nat) : Int)) = true := by rw [hx]; exact lt_mid _ _ _
      have g2 : decide ((1000 : Int) < (pre.length : Int)) = false := by simp; omega
      have hw2 : IntKind.wrap .i64 ((pre.length : Int) - (a.length : Int)) = (pre.length : Int) - (a.length : Int) := w64 (by omega) (by omega)
      have hadd := l35Add_eq (k := k) (l := r) (a := x.1) (n := x.2.1) (by omega) (by omega)
      simp only [VF.spec_AddEntries.l4, VF.spec_AddEntries.j3, VF.spec_AddEntries.j2, VF.spec_AddEntries.j1, hw, g1, sel_true, join_eq]
      rcases two_at ([], 0, ()) hx with ⟨c1, c2, c3⟩ | ⟨c1, c2, c3⟩
      · have c4 : decide ((pre.length : Int) < (a.length : Int)) = true := by simp; omega
        simp only [c2, c3, c4, sel_true, grd_true, isC_eq (k := k) (s := x.1) (by omega) (by omega), l1In_eq, bnd_some', g2, hadd, wnext (show pre.length < 1099511627776 by omega), okW]
        cases isC k x.1 <;> cases inB x.2.1 (-1000000000000) 1000000000000 <;> rfl
      · have c4 : decide ((pre.length : Int) < (a.length : Int)) = false := by simp; omega
        simp only [hw2, c2, c3, c4, sel_false, grd_true, isC_eq (k := k) (s := x.1) (by omega) (by omega), l1In_eq, bnd_some', g2, hadd, wnext (show pre.length < 1099511627776 by omega), okW]
        cases isC k x.1 <;> cases inB x.2.1 (-1000000000000) 1000000000000 <;> rfl)
    (fun ih r hr => by simp only [VF.spec_AddEntries.l4, hw, Int.lt_irrefl, decide_false, sel_false])
    (k := k) (by omega) (a := []) (by simp)
  rw [show ((0 : Nat) : Int) = 0 from rfl] at h1
  rw [h1, allP_all]
  cases hall : (a ++ b).all (okW k) with
  | false => rfl
  | true => rfl

/-! ### what firms have dealt with each other -/
def entsX (d : D4) : List Ent :=
  [([83, 65, 76, 69, 83], d.2.2.1, ()), ([67, 79, 83, 84], IntKind.wrap .i64 (0 - d.2.2.1), ()), ([67, 76, 65, 73, 77, 83], IntKind.wrap .i64 (0 - d.2.2.2.1), ()), ([68, 69, 66, 84, 83], d.2.2.2.1, ())]
def elimD (l : List D4) (n : Int) : List Ent := if areDl l n = true then adds (l.flatMap entsX) else []

theorem entsX_flat (l : List D4) : (l.flatMap entsX).length = 4 * l.length := by
  induction l with
  | nil => rfl
  | cons d l ih => rw [List.flatMap_cons, List.length_append, ih, List.length_cons]; simp [entsX]; omega
theorem entsX_ok {n : Int} {l : List D4} (h : areDl l n = true) : AllI (l.flatMap entsX) := by
  simp only [areDl, Bool.and_eq_true, List.all_eq_true] at h
  intro e he
  obtain ⟨d, hd, he⟩ := List.mem_flatMap.1 he
  have hd := h.2.2 d hd
  simp only [okDl, inB, Bool.and_eq_true, decide_eq_true_eq] at hd
  have hw := wrap_I64
  unfold I64 at hw
  unfold EntOk I64
  simp only [entsX, List.mem_cons, List.not_mem_nil, or_false] at he
  rcases he with rfl | rfl | rfl | rfl
  · simp only; omega
  · exact hw _
  · exact hw _
  · simp only; omega
theorem entsX_SmK (l : List D4) : SmK (l.flatMap entsX) := by
  intro e he
  obtain ⟨d, _, he⟩ := List.mem_flatMap.1 he
  simp only [entsX, List.mem_cons, List.not_mem_nil, or_false] at he
  rcases he with rfl | rfl | rfl | rfl <;> simp

theorem impl_Elim_eq {k : Nat} (hk : 1048577 < k) {l : List D4} {n : Int} (hl : l.length ≤ 1048576) : VF.impl_EliminationOf k l n = some ((elimD l n, ()), ()) := by
  unfold VF.impl_EliminationOf elimD
  rw [impl_AreDealings_eq (by omega) (by omega), bnd_some']
  cases ha : areDl l n with
  | false => simp
  | true =>
    have h20 := areDl_len ha
    simp only [Bool.not_true, sel_false, join_eq, if_true]
    have f1 : ∀ m, m ≤ 1048576 + 2 → fits m 24 = true := fun m hm => fits_of (by omega) (by omega)
    have h1 := iter_fold (s := VF.impl_EliminationOf.l1 (VF.impl_EliminationOf.j0 k)) (fun (a : List Ent) i => (a, l, (l.length : Int), (i : Int))) l (fun a x => a ++ entsX x) (VF.impl_EliminationOf.j0 k)
      (fun pre a => a.length ≤ 4 * pre.length)
      (fun a pre x post hx hi => by
        simp only [entsX, List.length_append, List.length_cons, List.length_nil]
        omega)
      (fun ih a pre x post hx hi => by
        have hpl : pre.length ≤ 20 := by rw [hx] at h20; simp at h20; omega
        rw [hx]
        simp only [VF.impl_EliminationOf.l1, lt_mid, sel_true, inb_mid, grd_true, rdL_mid, wnext (show pre.length < 1099511627776 by omega), entsX]
        rw [f1 _ (by simp; omega), grd_true])
      (fun ih a hi => by simp [VF.impl_EliminationOf.l1])
      (k := k) (by omega) (a := []) (by simp)
    rw [show ((0 : Nat) : Int) = 0 from rfl] at h1
    rw [h1]
    have hfold : ∀ (l : List D4) (r : List Ent), l.foldl (fun a x => a ++ entsX x) r = r ++ l.flatMap entsX := by
      intro l
      induction l with
      | nil => simp
      | cons d l ih => intro r; simp [ih]
    have hfl := entsX_flat l
    rw [hfold, List.nil_append]
    simp only [VF.impl_EliminationOf.j0]
    rw [totals_eq (by omega) (by omega), bnd_some', tots_eq _ (entsX_ok ha)]

theorem spec_Elim_eq {k : Nat} (hk : 1048577 < k) {l : List D4} {n : Int} (hl : l.length ≤ 1048576) : VF.spec_EliminationOf k l n = some ((elimD l n, ()), ()) := by
  unfold VF.spec_EliminationOf elimD
  rw [join_eq]
  have hd := spec_AreDealings_eq (k := k) (l := l) (f := n) (by omega) (by omega)
  cases ha : areDl l n with
  | false =>
    simp only [Bool.false_eq_true, if_false]
    obtain ⟨k', rfl⟩ : ∃ k', k = k' + 1 := ⟨k - 1, by omega⟩
    rw [iter_succ]
    simp only [VF.spec_EliminationOf.l1]
    rw [hd, bnd_some', ha]
    cases decide (0 < (l.length : Int)) <;> rfl
  | true =>
    have h20 := areDl_len ha
    simp only [if_true]
    have h1 := iter_fold (s := VF.spec_EliminationOf.l1 k l n VF.spec_EliminationOf.j0) (fun (a : List Ent) i => (a, (i : Int))) l (fun a x => (entsX x).foldl (fun r e => addE r e.1 e.2.1) a) VF.spec_EliminationOf.j0
      (fun pre a => a.length ≤ 4 * pre.length)
      (fun a pre x post hx hi => by
        have := fold_len (entsX x) a
        have e4 : (entsX x).length = 4 := rfl
        simp only [List.length_append, List.length_cons, List.length_nil]
        omega)
      (fun ih a pre x post hx hi => by
        have hpl : pre.length ≤ 20 := by rw [hx] at h20; simp at h20; omega
        have g1 : decide ((pre.length : Int) < (l.length : Int)) = true := by rw [hx]; exact lt_mid _ _ _
        have g2 : inb l (pre.length : Int) = true := by rw [hx]; exact inb_mid _ _ _
        have g3 : rdL l (pre.length : Int) (0, 0, 0, 0, ()) = x := by rw [hx]; exact rdL_mid _ _ _ _
        have hadd : ∀ (r : List Ent) (c : Key) (m : Int), r.length ≤ 200 → VF.spec_l35Add k r c m = some ((addE r c m, ()), ()) := fun r c m hr => l35Add_eq (by omega) (by omega)
        have t2 : ∀ {b : Nat} {r : List Ent} {c : Key} {m : Int}, r.length ≤ b → (addE r c m).length ≤ b + 1 := fun h => Nat.le_trans (addE_length _ _ _) (Nat.succ_le_succ h)
        simp only [VF.spec_EliminationOf.l1, g1, g2, g3, sel_true, grd_true, hd, bnd_some', ha, wnext (show pre.length < 1099511627776 by omega), entsX, List.foldl_cons, List.foldl_nil]
        rw [hadd _ _ _ (by omega)]; simp only [bnd_some']
        rw [hadd _ _ _ (t2 (by omega))]; simp only [bnd_some']
        rw [hadd _ _ _ (t2 (t2 (by omega)))]; simp only [bnd_some']
        rw [hadd _ _ _ (t2 (t2 (t2 (by omega))))]; simp only [bnd_some'])
      (fun ih a hi => by simp [VF.spec_EliminationOf.l1])
      (k := k) (by omega) (a := []) (by simp)
    rw [show ((0 : Nat) : Int) = 0 from rfl] at h1
    rw [h1]
    have hf : ∀ (l : List D4) (r : List Ent), l.foldl (fun r x => (entsX x).foldl (fun r e => addE r e.1 e.2.1) r) r = (l.flatMap entsX).foldl (fun r e => addE r e.1 e.2.1) r := by
      intro l
      induction l with
      | nil => intro r; rfl
      | cons d l ih => intro r; rw [List.foldl_cons, ih, List.flatMap_cons, List.foldl_append]
    rw [hf]
    rfl

theorem elimD_len {l : List D4} {n : Int} : (elimD l n).length ≤ 80 := by
  unfold elimD
  split
  · next ha =>
    have h1 := areDl_len ha
    have h2 := adds_length (l.flatMap entsX)
    have h3 := entsX_flat l
    omega
  · simp
theorem elimD_SmK {l : List D4} {n : Int} : SmK (elimD l n) := by
  unfold elimD
  split
  · exact adds_SmK (entsX_SmK l)
  · intro e he; simp at he

/-! ### the group -/
def groupT (k : Nat) (f : List (List Ent)) (l : List D4) : List Ent × Bool :=
  if (joinT k f).2 = true ∧ areDl l (f.length : Int) = true then addT k (joinT k f).1 (elimD l (f.length : Int)) else ([], false)

theorem joinT_len {k : Nat} {l : List (List Ent)} : (joinT k l).1.length ≤ 72 := by
  unfold joinT
  split
  · next hj =>
    obtain ⟨g1, g2⟩ := flat12 hj.2
    have := adds_length l.flatten
    have := hj.1
    simp only
    omega
  · simp
theorem joinT_SmK {k : Nat} {l : List (List Ent)} (hs : ∀ x ∈ l, SmE x) : SmK (joinT k l).1 := by
  unfold joinT
  split
  · refine adds_SmK fun e he => ?_
    obtain ⟨x, hx, he⟩ := List.mem_flatten.1 he
    exact (hs x hx).2 e he
  · intro e he; simp at he

theorem impl_Group_eq {k : Nat} (hk : 1048577 < k) {f : List (List Ent)} {l : List D4} (hf : f.length ≤ 1048576) (hs : ∀ x ∈ f, SmE x) (hl : l.length ≤ 1048576) :
    VF.impl_GroupTrial k f l = some (((groupT k f l).1, (groupT k f l).2, ()), ()) := by
  unfold VF.impl_GroupTrial groupT
  have e1 := joinT_len (k := k) (l := f)
  have e2 := elimD_len (l := l) (n := (f.length : Int))
  simp only [impl_Join_eq hk hf hs, impl_AreDealings_eq (k := k) (l := l) (f := (f.length : Int)) (by omega) (by omega), impl_Elim_eq hk (n := (f.length : Int)) hl, impl_Add_eq hk (a := (joinT k f).1) (b := elimD l (f.length : Int)) (by omega) (joinT_SmK hs) elimD_SmK, bnd_some']
  cases (joinT k f).2 <;> cases areDl l (f.length : Int) <;> simp
theorem spec_Group_eq {k : Nat} (hk : 1048577 < k) {f : List (List Ent)} {l : List D4} (hf : f.length ≤ 1048576) (hs : ∀ x ∈ f, SmE x) (hl : l.length ≤ 1048576) :
    VF.spec_GroupTrial k f l = some (((groupT k f l).1, (groupT k f l).2, ()), ()) := by
  unfold VF.spec_GroupTrial groupT
  have e1 := joinT_len (k := k) (l := f)
  have e2 := elimD_len (l := l) (n := (f.length : Int))
  have h1 := spec_Elim_eq hk (l := l) (n := (f.length : Int)) hl
  have h2 := spec_Add_eq hk (a := (joinT k f).1) (b := elimD l (f.length : Int)) (by omega) (joinT_SmK hs) elimD_SmK
  simp only [spec_Join_eq hk hf hs, spec_AreDealings_eq (k := k) (l := l) (f := (f.length : Int)) (by omega) (by omega), bnd_some']
  cases (joinT k f).2 <;> cases areDl l (f.length : Int) <;> simp [VF.spec_GroupTrial.j0, h1, h2]

theorem addT_len {k : Nat} {a b : List Ent} : (addT k a b).1.length ≤ a.length + b.length := by
  unfold addT
  split
  · have := adds_length (a ++ b)
    simp at this ⊢
    omega
  · simp
theorem groupT_len {k : Nat} {f : List (List Ent)} {l : List D4} : (groupT k f l).1.length ≤ 200 := by
  unfold groupT
  split
  · have := addT_len (k := k) (a := (joinT k f).1) (b := elimD l (f.length : Int))
    have e1 := joinT_len (k := k) (l := f)
    have e2 := elimD_len (l := l) (n := (f.length : Int))
    omega
  · simp

theorem szDealingS_eq {k : Nat} (l : List D4) (hl : l.length ≤ maxLen) (left : Int) (h0 : 0 ≤ left) (h1 : left ≤ 1048576) : ∃ r : Int, VF.laws_szDealingS k l left = some ((r, ()), ()) ∧ (r < 0 ∨ (0 ≤ r ∧ l.length ≤ 1048576)) := by
  have hm : maxLen = 9223372036854775807 := rfl
  rw [hm] at hl
  unfold VF.laws_szDealingS
  have hw : IntKind.wrap .i64 (left - (l.length : Int)) = left - (l.length : Int) := w64 (by omega) (by omega)
  rw [hw]
  by_cases h : left - (l.length : Int) < 0
  · exact ⟨-1, by simp [h], .inl (by omega)⟩
  · exact ⟨left - (l.length : Int), by simp [h], .inr (by omega)⟩

theorem lenEE_le {l : List (List Ent)} (hs : ∀ x ∈ l, SmE x) : lenEE l ≤ 1048576 * l.length := by
  induction l with
  | nil => simp [lenEE]
  | cons x l ih =>
    have h1 := (hs x (by simp)).1
    have h2 := ih fun y hy => hs y (by simp [hy])
    simp only [lenEE, List.flatten_cons, List.length_append, List.length_cons] at h2 ⊢
    omega

theorem group_true (f : List (List Ent)) (l : List D4) (hf : OkD (.sl (.sl (.pair .str (.pair (.int .i64) .unit)))) f) (hl : l.length ≤ maxLen) : VF.laws_FnExactGroupTrial 1048600 f l = some ((true, ()), ()) := by
  unfold VF.laws_FnExactGroupTrial
  obtain ⟨r, e1, e2⟩ := szEntrySS_eq (k := 1048600) (by omega) f hf
  rw [e1, bnd_some']
  by_cases h : r < 0
  · simp [h]
  · rcases e2 with h' | ⟨hr0, hr1, hlen, hs⟩
    · exact absurd h' h
    · obtain ⟨r', e3, e4⟩ := szDealingS_eq (k := 1048600) l hl r hr0 hr1
      simp only [h, decide_false, sel_false, e3, bnd_some']
      by_cases h2 : r' < 0
      · simp [h2]
      · rcases e4 with h' | ⟨_, hl2⟩
        · exact absurd h' h2
        · have hg := groupT_len (k := 1048600) (f := f) (l := l)
          have r1 := toEntrySS_eq (k := 1048600) (by omega) hlen hs
          have r1' := toDealingS_eq (k := 1048600) (a := l) (by omega) hl2
          have r2 := spec_Group_eq (k := 1048600) (by omega) hlen hs hl2
          have r3 := impl_Group_eq (k := 1048600) (by omega) hlen hs hl2
          have r4 := eqEntryS_eq (k := 1048600) (a := (groupT 1048600 f l).1) (b := (groupT 1048600 f l).1) (by omega) (by omega)
          have r5 := eqEntrySS_eq (k := 1048600) (by omega) (a := f) (b := f) hlen hs
          have r5' := eqDealingS_eq (k := 1048600) (a := l) (b := l) (by omega) (by omega)
          obtain ⟨q, r6⟩ := markEntrySS_eq (k := 1048600) (by omega) hlen hs
          have hle := lenEE_le hs
          have r6' := markDealingS_eq (k := 1048600) (l := l) (m := 1 + 2 * (lenEE f : Int)) (by omega) (by omega) (by omega)
          have r7 := markEntryS_eq (k := 1048600) (by omega) (l := (groupT 1048600 f l).1) (m := 1) (by omega) (by omega) (by omega)
          have r8 := heldEntryS_eq (k := 1048600) (by omega) (l := (groupT 1048600 f l).1) (m := 1) (by omega) (by omega) (by omega)
          have d1 : decide ((1 + 2 * (lenEE f : Int) + 4 * (l.length : Int)) < 0) = false := by simp; omega
          have d2 : decide ((1 + 2 * ((groupT 1048600 f l).1.length : Int)) < 0) = false := by simp; omega
          simp only [h2, decide_false, sel_false, r1, r1', r2, r3, r4, r5, r5', r6, r6', r7, r8, bnd_some', decide_true, Bool.not_true, join_eq, d1, d2, VF.laws_FnExactGroupTrial.j0, VF.laws_FnExactGroupTrial.j1, VF.laws_FnExactGroupTrial.j2, beq_self_eq_true]
end VM
