/- The law FirmDealings is true of all arguments. -/
import Derived.Test.YtkdkpfnglogpdaaVQb
set_option linter.unusedVariables false
set_option linter.unusedSimpArgs false
namespace VM
open Go

def entsA (f : Int) (d : D4) : List Ent :=
  if d.1 = f then [([83, 65, 76, 69, 83], IntKind.wrap .i64 (0 - d.2.2.1), ()), ([67, 76, 65, 73, 77, 83], d.2.2.2.1, ()), ([67, 65, 83, 72], IntKind.wrap .i64 (d.2.2.1 - d.2.2.2.1), ())] else []
def entsB (f : Int) (d : D4) : List Ent :=
  if d.2.1 = f then [([67, 79, 83, 84], d.2.2.1, ()), ([68, 69, 66, 84, 83], IntKind.wrap .i64 (0 - d.2.2.2.1), ()), ([67, 65, 83, 72], IntKind.wrap .i64 (d.2.2.2.1 - d.2.2.1), ())] else []
def entsD (f : Int) (d : D4) : List Ent := entsA f d ++ entsB f d
def firmD (l : List D4) (n f : Int) : List Ent := if areDl l n = true then adds (l.flatMap (entsD f)) else []

theorem entsA_len (f : Int) (d : D4) : (entsA f d).length ≤ 3 := by unfold entsA; split <;> simp
theorem entsB_len (f : Int) (d : D4) : (entsB f d).length ≤ 3 := by unfold entsB; split <;> simp
theorem entsD_len (f : Int) (d : D4) : (entsD f d).length ≤ 6 := by
  have := entsA_len f d
  have := entsB_len f d
  unfold entsD
  rw [List.length_append]; omega
theorem entsD_ok {n f : Int} {d : D4} (h : okDl n d = true) : AllI (entsD f d) := by
  simp only [okDl, inB, Bool.and_eq_true, decide_eq_true_eq] at h
  intro e he
  unfold EntOk I64
  have hw := wrap_I64
  unfold I64 at hw
  simp only [entsD, entsA, entsB] at he
  rcases List.mem_append.1 he with he | he
  · split at he
    · simp only [List.mem_cons, List.not_mem_nil, or_false] at he
      rcases he with rfl | rfl | rfl
      · exact hw _
      · simp only; omega
      · exact hw _
    · simp at he
  · split at he
    · simp only [List.mem_cons, List.not_mem_nil, or_false] at he
      rcases he with rfl | rfl | rfl
      · simp only; omega
      · exact hw _
      · exact hw _
    · simp at he

theorem flat_len (f : Int) (l : List D4) : (l.flatMap (entsD f)).length ≤ 6 * l.length := by
  induction l with
  | nil => simp
  | cons d l ih =>
    have := entsD_len f d
    simp only [List.flatMap_cons, List.length_append, List.length_cons]
    omega
theorem flat_ok {n f : Int} {l : List D4} (h : areDl l n = true) : AllI (l.flatMap (entsD f)) := by
  simp only [areDl, Bool.and_eq_true, List.all_eq_true] at h
  intro e he
  obtain ⟨d, hd, he⟩ := List.mem_flatMap.1 he
  exact entsD_ok (h.2.2 d hd) e he
theorem areDl_len {l : List D4} {n : Int} (h : areDl l n = true) : l.length ≤ 20 := by
  simp only [areDl, Bool.and_eq_true, decide_eq_true_eq] at h
  exact h.2.1

theorem impl_Firm_eq {k : Nat} {l : List D4} {n f : Int} (hk : l.length + 200 < k) (hl : l.length < 1048577) : VF.impl_FirmDealings k l n f = some ((firmD l n f, ()), ()) := by
  unfold VF.impl_FirmDealings firmD
  rw [impl_AreDealings_eq (by omega) (by omega), bnd_some']
  cases ha : areDl l n with
  | false => simp
  | true =>
    have h20 := areDl_len ha
    simp only [Bool.not_true, sel_false, join_eq, if_true]
    have f1 : ∀ m, m ≤ 1048576 + 2 → fits m 24 = true := fun m hm => fits_of (by omega) (by omega)
    have h1 := iter_fold (s := VF.impl_FirmDealings.l2 f (VF.impl_FirmDealings.j0 k)) (fun (a : List Ent) i => (a, l, (l.length : Int), (i : Int))) l (fun a x => a ++ entsD f x) (VF.impl_FirmDealings.j0 k)
      (fun pre a => a.length ≤ 6 * pre.length)
      (fun a pre x post hx hi => by
        have := entsD_len f x
        simp only [List.length_append, List.length_cons, List.length_nil]
        omega)
      (fun ih a pre x post hx hi => by
        have hpl : pre.length ≤ 20 := by rw [hx] at h20; simp at h20; omega
        have g1 : decide ((pre.length : Int) < (l.length : Int)) = true := by rw [hx]; exact lt_mid _ _ _
        have g2 : inb l (pre.length : Int) = true := by rw [hx]; exact inb_mid _ _ _
        have g3 : rdL l (pre.length : Int) (0, 0, 0, 0, ()) = x := by rw [hx]; exact rdL_mid _ _ _ _
        simp only [VF.impl_FirmDealings.l2, VF.impl_FirmDealings.j1, g1, g2, g3, sel_true, grd_true, join_eq, wnext (show pre.length < 1099511627776 by omega), entsD, entsA, entsB]
        by_cases h1 : x.1 = f <;> by_cases h2 : x.2.1 = f
        · simp only [h1, h2, decide_true, sel_true, if_true, List.append_assoc]
          rw [f1 _ (by simp; omega), grd_true, f1 _ (by simp; omega), grd_true]
        · simp only [h1, h2, decide_true, decide_false, sel_true, sel_false, if_true, if_false, List.append_assoc, List.append_nil]
          rw [f1 _ (by simp; omega), grd_true]
        · simp only [h1, h2, decide_true, decide_false, sel_true, sel_false, if_true, if_false, List.append_assoc, List.nil_append]
          rw [f1 _ (by simp; omega), grd_true]
        · simp only [h1, h2, decide_true, decide_false, sel_true, sel_false, if_true, if_false, List.append_assoc, List.append_nil])
      (fun ih a hi => by simp [VF.impl_FirmDealings.l2])
      (k := k) (by omega) (a := []) (by simp)
    rw [show ((0 : Nat) : Int) = 0 from rfl] at h1
    rw [h1]
    have hfold : ∀ (l : List D4) (r : List Ent), l.foldl (fun a x => a ++ entsD f x) r = r ++ l.flatMap (entsD f) := by
      intro l
      induction l with
      | nil => simp
      | cons d l ih => intro r; simp [ih]
    rw [hfold, List.nil_append]
    have hfl := flat_len f l
    simp only [VF.impl_FirmDealings.j0]
    rw [totals_eq (by omega) (by omega), bnd_some', tots_eq _ (flat_ok ha)]

theorem adds_step (l : List D4) (f : Int) : l.foldl (fun a x => (entsD f x).foldl (fun r e => addE r e.1 e.2.1) a) [] = adds (l.flatMap (entsD f)) := by
  have : ∀ (l : List D4) (r : List Ent), l.foldl (fun a x => (entsD f x).foldl (fun r e => addE r e.1 e.2.1) a) r = (l.flatMap (entsD f)).foldl (fun r e => addE r e.1 e.2.1) r := by
    intro l
    induction l with
    | nil => intro r; rfl
    | cons d l ih => intro r; rw [List.foldl_cons, ih, List.flatMap_cons, List.foldl_append]
  exact this l []
theorem fold_len : ∀ (es r : List Ent), (es.foldl (fun r e => addE r e.1 e.2.1) r).length ≤ r.length + es.length
  | [], r => by simp
  | e :: es, r => by
    have h1 := fold_len es (addE r e.1 e.2.1)
    have h2 := addE_length r e.1 e.2.1
    simp only [List.foldl_cons, List.length_cons]
    omega

theorem spec_Firm_eq {k : Nat} {l : List D4} {n f : Int} (hk : l.length + 200 < k) (hl : l.length < 1048577) : VF.spec_FirmDealings k l n f = some ((firmD l n f, ()), ()) := by
  unfold VF.spec_FirmDealings firmD
  rw [join_eq]
  cases ha : areDl l n with
  | false =>
    simp only [Bool.false_eq_true, if_false]
    cases k with
    | zero => omega
    | succ k =>
      rw [iter_succ]
      unfold VF.spec_FirmDealings.l2
      rw [spec_AreDealings_eq (by omega) (by omega), bnd_some', ha]
      cases decide (((([], 0) : List Ent × Int).2) < (l.length : Int)) <;> rfl
  | true =>
    have h20 := areDl_len ha
    simp only [if_true]
    have h1 := iter_fold (s := VF.spec_FirmDealings.l2 k l n f VF.spec_FirmDealings.j0) (fun (a : List Ent) i => (a, (i : Int))) l (fun a x => (entsD f x).foldl (fun r e => addE r e.1 e.2.1) a) VF.spec_FirmDealings.j0
      (fun pre a => a.length ≤ 6 * pre.length)
      (fun a pre x post hx hi => by
        have := entsD_len f x
        have := fold_len (entsD f x) a
        simp only [List.length_append, List.length_cons, List.length_nil]
        omega)
      (fun ih a pre x post hx hi => by
        have hpl : pre.length ≤ 20 := by rw [hx] at h20; simp at h20; omega
        have g1 : decide ((pre.length : Int) < (l.length : Int)) = true := by rw [hx]; exact lt_mid _ _ _
        have g2 : inb l (pre.length : Int) = true := by rw [hx]; exact inb_mid _ _ _
        have g3 : rdL l (pre.length : Int) (0, 0, 0, 0, ()) = x := by rw [hx]; exact rdL_mid _ _ _ _
        have hadd : ∀ (r : List Ent) (c : Key) (m : Int), r.length ≤ 200 → VF.spec_l35Add k r c m = some ((addE r c m, ()), ()) := fun r c m hr => l35Add_eq (by omega) (by omega)
        have t2 : ∀ {b : Nat} {r : List Ent} {c : Key} {m : Int}, r.length ≤ b → (addE r c m).length ≤ b + 1 := fun h => Nat.le_trans (addE_length _ _ _) (Nat.succ_le_succ h)
        simp only [VF.spec_FirmDealings.l2, VF.spec_FirmDealings.j1, g1, g2, g3, sel_true, grd_true, join_eq, spec_AreDealings_eq (k := k) (l := l) (f := n) (by omega) (by omega), bnd_some', ha, wnext (show pre.length < 1099511627776 by omega), entsD, entsA, entsB, List.foldl_append]
        by_cases h1 : x.1 = f <;> by_cases h2 : x.2.1 = f
        · simp only [h1, h2, decide_true, sel_true, if_true, List.foldl_cons, List.foldl_nil]
          rw [hadd _ _ _ (by omega)]; simp only [bnd_some']
          rw [hadd _ _ _ (t2 (by omega))]; simp only [bnd_some']
          rw [hadd _ _ _ (t2 (t2 (by omega)))]; simp only [bnd_some']
          rw [hadd _ _ _ (t2 (t2 (t2 (by omega))))]; simp only [bnd_some']
          rw [hadd _ _ _ (t2 (t2 (t2 (t2 (by omega)))))]; simp only [bnd_some']
          rw [hadd _ _ _ (t2 (t2 (t2 (t2 (t2 (by omega))))))]; simp only [bnd_some']
        · simp only [h1, h2, decide_true, decide_false, sel_true, sel_false, if_true, if_false, List.foldl_cons, List.foldl_nil]
          rw [hadd _ _ _ (by omega)]; simp only [bnd_some']
          rw [hadd _ _ _ (t2 (by omega))]; simp only [bnd_some']
          rw [hadd _ _ _ (t2 (t2 (by omega)))]; simp only [bnd_some']
        · simp only [h1, h2, decide_true, decide_false, sel_true, sel_false, if_true, if_false, List.foldl_cons, List.foldl_nil]
          rw [hadd _ _ _ (by omega)]; simp only [bnd_some']
          rw [hadd _ _ _ (t2 (by omega))]; simp only [bnd_some']
          rw [hadd _ _ _ (t2 (t2 (by omega)))]; simp only [bnd_some']
        · simp only [h1, h2, decide_false, sel_false, if_false, List.foldl_nil])
      (fun ih a hi => by simp [VF.spec_FirmDealings.l2])
      (k := k) (by omega) (a := []) (by simp)
    rw [show ((0 : Nat) : Int) = 0 from rfl] at h1
    rw [h1, adds_step]
    rfl

theorem firm_true (l : List D4) (n f : Int) (hl : l.length ≤ maxLen) : VF.laws_FnExactFirmDealings (l.length + 2000) l n f = some ((true, ()), ()) := by
  have hm : maxLen = 9223372036854775807 := rfl
  rw [hm] at hl
  unfold VF.laws_FnExactFirmDealings
  have hsz : VF.laws_szDealingS (l.length + 2000) l 1048576 = some ((if l.length ≤ 1048576 then (1048576 - (l.length : Int)) else -1, ()), ()) := by
    unfold VF.laws_szDealingS
    have hw : IntKind.wrap .i64 (1048576 - (l.length : Int)) = 1048576 - (l.length : Int) := w64 (by omega) (by omega)
    rw [hw]
    by_cases h : l.length ≤ 1048576
    · rw [show decide (1048576 - (l.length : Int) < 0) = false by simp; omega, sel_false, if_pos h]
    · rw [show decide (1048576 - (l.length : Int) < 0) = true by simp; omega, sel_true, if_neg h]
  rw [hsz, bnd_some']
  by_cases h : l.length ≤ 1048576
  · simp only [if_pos h]
    rw [show decide (1048576 - (l.length : Int) < 0) = false by simp; omega, sel_false]
    have hfl : (firmD l n f).length ≤ 200 := by
      unfold firmD
      split
      · next ha =>
        have h20 := areDl_len ha
        have h1 := flat_len f l
        have h2 := fold_len (l.flatMap (entsD f)) []
        unfold adds
        simp only [List.length_nil, Nat.zero_add] at h2
        omega
      · simp
    have r1 := toDealingS_eq (k := l.length + 2000) (a := l) (by omega) h
    have r2 := spec_Firm_eq (k := l.length + 2000) (l := l) (n := n) (f := f) (by omega) (by omega)
    have r3 := impl_Firm_eq (k := l.length + 2000) (l := l) (n := n) (f := f) (by omega) (by omega)
    have r4 := eqEntryS_eq (k := l.length + 2000) (a := firmD l n f) (b := firmD l n f) (by omega) (by omega)
    have r5 := eqDealingS_eq (k := l.length + 2000) (a := l) (b := l) (by omega) (by omega)
    have r6 := markDealingS_eq (k := l.length + 2000) (l := l) (m := 1) (by omega) (by omega) (by omega)
    have r7 := markEntryS_eq (k := l.length + 2000) (by omega) (l := firmD l n f) (m := 1) (by omega) (by omega) (by omega)
    have r8 := heldEntryS_eq (k := l.length + 2000) (by omega) (l := firmD l n f) (m := 1) (by omega) (by omega) (by omega)
    have d1 : decide ((1 + 4 * (l.length : Int)) < 0) = false := by simp; omega
    have d2 : decide ((1 + 2 * ((firmD l n f).length : Int)) < 0) = false := by simp; omega
    simp only [r1, r2, r3, r4, r5, r6, r7, r8, bnd_some', decide_true, Bool.not_true, sel_false, join_eq, d1, d2, VF.laws_FnExactFirmDealings.j0]
  · simp only [if_neg h]
    rfl
end VM
