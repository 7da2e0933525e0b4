/- FnTakenBack is true. -/
import Derived.Test.YtljofbhokcdklaaWUa
import Derived.Test.YtljofbhokcdklaaWUb
set_option linter.unusedVariables false
set_option linter.unusedSimpArgs false
namespace VM
open Go

theorem drop_idem {l : List TEv} {id : Int} {e : TEv} (he : e.1 = id) :
    ((l.filter (fun x => !decide (x.1 = id))) ++ [e]).filter (fun x => !decide (x.1 = id)) = l.filter (fun x => !decide (x.1 = id)) := by
  rw [List.filter_append, List.filter_filter]
  simp [he]

theorem taken_true (code : List Int) : VF.laws_FnTakenBack 1048600 code = some ((true, ()), ()) := by
  unfold VF.laws_FnTakenBack VF.laws_big
  simp only [bnd_some']
  by_cases hbig : (1048576 : Int) < (code.length : Int)
  · simp [hbig]
  · simp only [hbig, decide_false, sel_false]
    obtain ⟨l, id, e, hl⟩ := drawDrop_ex (k := 1048600) (code := code) (by omega) (by omega)
    rw [e]
    simp only [bnd_some']
    have hll := hl.1
    rw [impl_Drop_eq (by omega) (by omega)]
    simp only [bnd_some', join_eq]
    have hf : ∀ x ∈ l.filter (fun x => !decide (x.1 = id)), x.1 ≠ id := fun x hx => by simpa using (List.mem_filter.1 hx).2
    have hfl : (l.filter (fun x => !decide (x.1 = id))).length ≤ 27 := Nat.le_trans (List.length_filter_le _ _) hll
    have hsm : SmV (l.filter (fun x => !decide (x.1 = id))) := fun x hx => hl.sm x (List.mem_filter.1 hx).1
    have hd := fun e he => drop_idem (l := l) (id := id) (e := e) he
    generalize l.filter (fun x => !decide (x.1 = id)) = d at *
    refine iter_go (fun i => (id, d, (i : Int))) d.length _ (fun ih i hi => ?_) (fun ih => ?_) (by omega)
    · unfold VF.laws_FnTakenBack.l1
      have hx := hf _ (rdL_mem hi E0)
      simp only [lt_nat hi, inb_nat hi, sel_true, grd_true, w_nat hi (by omega)]
      rw [show decide ((rdL d (i : Int) (0, 0, 0, [], 0, 0, 0, ())).1 = id) = false by simpa using hx]
      rfl
    · unfold VF.laws_FnTakenBack.l1
      simp only [Int.lt_irrefl, decide_false, sel_false]
      unfold VF.laws_FnTakenBack.j0
      simp only [List.nil_append]
      rw [impl_Books_eq (by omega) (by omega) hsm]
      simp only [bnd_some']
      rw [fits_of (by decide) (by omega), fits_of (by decide) (by omega), impl_Drop_eq (by omega) (by simp; omega), hd _ rfl]
      simp only [grd_true, bnd_some']
      rw [impl_Books_eq (by omega) (by omega) hsm]
      have hB := (booksV_Sm (k := 1048600) hsm).1
      simp only [bnd_some']
      rw [show VF.impl_SameBooks 1048600 ((booksV 1048600 d).1.1, (booksV 1048600 d).1.2.1, (booksV 1048600 d).1.2.2.1, ()) ((booksV 1048600 d).1.1, (booksV 1048600 d).1.2.1, (booksV 1048600 d).1.2.2.1, ()) = _ from impl_same_refl (by omega) hB,
        show VF.spec_SameBooks 1048600 ((booksV 1048600 d).1.1, (booksV 1048600 d).1.2.1, (booksV 1048600 d).1.2.2.1, ()) ((booksV 1048600 d).1.1, (booksV 1048600 d).1.2.1, (booksV 1048600 d).1.2.2.1, ()) = _ from spec_same_refl (by omega) hB]
      rfl
end VM
