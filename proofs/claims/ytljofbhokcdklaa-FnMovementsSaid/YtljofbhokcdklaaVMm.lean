/- append. -/
import Derived.Test.YtljofbhokcdklaaVMl
set_option linter.unusedVariables false
set_option linter.unusedSimpArgs false
namespace VM
open Go

theorem Addr.add_none (b o j : Nat) : (⟨b, o, none⟩ : Addr).add j = ⟨b, o + j, none⟩ := by unfold Addr.add; split <;> simp_all

theorem heap_setRow_other (w : World) (g : Nat) (cs : Array Value) {k : Nat} (h : k ≠ g) : (w.setRow g cs).heap[k]? = w.heap[k]? := by
  unfold World.setRow
  simp only [Array.getElem?_modify]
  rw [if_neg (fun e => h e.symm)]

theorem run_append_gen {P : Program} {w : World} {t t' ty e e' : TypeId} {i : TypeInfo} {z : Value} {size : Nat} (ht : P.underlying t = some (.slice e)) (ht' : P.underlying t' = some (.slice e')) (hi : P.info? e = some i) (hz : i.zero = some z)
    (hs : i.size = size) (hzs : z.cells.size = size) (hsz : 0 < size)
    {A : Option Addr} {n cap : Nat} {olds : List Value} (hlo : olds.length = n * size) (hnc : n ≤ cap)
    (hA : (A = none ∧ n = 0 ∧ cap = 0) ∨ ∃ b off, A = some ⟨b, off, none⟩ ∧ CellsAt w b off olds ∧ OwnB w b (off + cap * size))
    {A' : Option Addr} {m cap' : Nat} {news : List Value} (hln : news.length = m * size) (hA' : m = 0 ∨ ∃ b off, A' = some ⟨b, off, none⟩ ∧ CellsAt w b off news) (h1 : ∀ u ∈ news, u.oneCell' = true)
    (hfit : (n + m) * i.bytes ≤ 140737488355328) (hb : 0 < i.bytes) :
    ∃ v' w', (Builtin.append_ #[t, t'] ty #[.slice A n cap, .slice A' m cap']).run P w = .ok v' w' ∧ w'.os = w.os ∧ w'.tape = w.tape ∧ w'.output = w.output ∧ w.heap.size ≤ w'.heap.size ∧
      ((A = none ∧ m = 0 ∧ n = 0 ∧ v' = .slice none 0 0 ∧ w' = w) ∨
       ∃ b off cap', v' = .slice (some ⟨b, off, none⟩) (n + m) cap' ∧ n + m ≤ cap' ∧ CellsAt w' b off (olds ++ news) ∧ OwnB w' b (off + cap' * size) ∧ (A = some ⟨b, off, none⟩ ∨ b = w.heap.size) ∧
         ∀ k, k < w.heap.size → (∀ off, A = some ⟨k, off, none⟩ → False) → w'.heap[k]? = w.heap[k]?) := by
  subst hs
  have hnm : n + m ≤ (n + m) * i.bytes := Nat.le_mul_of_pos_right _ hb
  have hf : ∀ w2 : World, (∀ a u, w.cell? a = some u → w2.cell? a = some u) → (Builtin.firstCells i.size m (.slice A' m cap')).run P w2 = .ok news.toArray w2 := by
    intro w2 h2
    rcases hA' with h0 | ⟨b, off, rfl, hc⟩
    · subst h0
      have : news = [] := by simpa using hln
      subst this
      cases A' with
      | none => simp [Builtin.firstCells]
      | some a => simp [Builtin.firstCells, loadCells, loadCellsFrom]
    · exact run_firstCells_some (P := P) w2 i.size m _ m cap' news hln (fun j u hu => by rw [Addr.add_none]; exact h2 _ _ (hc j u hu))
  by_cases hroom : n + m ≤ cap
  · have hf0 := hf w (fun _ _ h => h)
    rcases hA with ⟨rfl, rfl, rfl⟩ | ⟨b, off, rfl, hc, arr, bty, hown, hle⟩
    · obtain rfl : m = 0 := by omega
      exact ⟨.slice none 0 0, w, by simp [Builtin.append_, run_underlying ht, run_underlying ht', Go.sizeOf, typeInfo, hi, Builtin.lenOf, hf0], rfl, rfl, rfl, Nat.le_refl _, .inl ⟨rfl, rfl, rfl, rfl, rfl⟩⟩
    · have hcm : (n + m) * i.size ≤ cap * i.size := Nat.mul_le_mul_right _ hroom
      rw [Nat.add_mul] at hcm
      have hst := run_storeCells_at (P := P) b (off + n * i.size) bty news 0 arr w hown (by omega) h1
      simp only [Nat.add_zero] at hst
      refine ⟨.slice (some ⟨b, off, none⟩) (n + m) cap, w.setRow b (arr.toList.take (off + n * i.size) ++ news ++ arr.toList.drop (off + n * i.size + news.length)).toArray, ?_, rfl, rfl, rfl, ?_, .inr ⟨b, off, cap, rfl, hroom, ?_, ?_, .inl rfl, ?_⟩⟩
      · simp [Builtin.append_, run_underlying ht, run_underlying ht', Go.sizeOf, typeInfo, hi, Builtin.lenOf, hf0, hroom, Addr.add_none]
        simp only [List.append_assoc] at hst
        rw [hst]
        simp
      · simp
      · have hblk := setRow_heap w b arr (arr.toList.take (off + n * i.size) ++ news ++ arr.toList.drop (off + n * i.size + news.length)).toArray bty _ hown
        intro j u hu
        rw [cell_of_row _ b (off + j) _ bty _ hblk]
        have holds : ∀ j u, olds[j]? = some u → arr[off + j]? = some u := fun j u hu => by
          have := hc j u hu
          rwa [cell_of_row w b (off + j) arr bty _ hown] at this
        simp only [List.getElem?_toArray]
        have harr : arr.toList.length = arr.size := by simp
        by_cases hj : j < olds.length
        · rw [List.getElem?_append_left hj] at hu
          rw [List.append_assoc, List.getElem?_append_left (by rw [List.length_take]; omega), List.getElem?_take, if_pos (by omega)]
          simpa using holds j u hu
        · rw [List.getElem?_append_right (by omega)] at hu
          have hj2 : j - olds.length < news.length := (List.getElem?_eq_some_iff.1 hu).1
          rw [List.append_assoc, List.getElem?_append_right (by rw [List.length_take]; omega), List.length_take, List.getElem?_append_left (by omega)]
          rw [← hu]
          congr 1
          omega
      · have hblk := setRow_heap w b arr (arr.toList.take (off + n * i.size) ++ news ++ arr.toList.drop (off + n * i.size + news.length)).toArray bty _ hown
        refine ⟨_, bty, hblk, ?_⟩
        simp only [List.size_toArray, List.length_append, List.length_take, List.length_drop, Array.length_toList]
        omega
      · intro k hk hne
        exact heap_setRow_other w b _ (fun e => hne off (by rw [e]))
  · have hm : 0 < m := by omega
    have h63' : ¬ (9223372036854775807 < ((n : Int) + (m : Int))) := by omega
    have hnext := nextslicecap_le (need := n + m) (old := cap) (by omega)
    have hnext2 : Builtin.nextslicecap (n + m) cap * i.bytes ≤ 2 * (n + m) * i.bytes := Nat.mul_le_mul_right _ hnext
    rw [Nat.mul_assoc] at hnext2
    have h48' : ¬ (281474976710656 < Builtin.nextslicecap (n + m) cap * i.bytes) := by omega
    have hf0 := hf w.drew (fun a u h => by simpa using h)
    have hfo : (Builtin.firstCells i.size n (.slice A n cap)).run P w.drew = .ok olds.toArray w.drew := by
      rcases hA with ⟨rfl, rfl, rfl⟩ | ⟨b, off, rfl, hc, hown⟩
      · have : olds = [] := by simpa using hlo
        subst this
        simp [Builtin.firstCells]
      · exact run_firstCells_some (P := P) w.drew i.size n _ n cap olds hlo (fun j u hu => by rw [Addr.add_none]; simpa using hc j u hu)
    have hge := grownCap_ge w (n + m) cap e
    have hsizes : (olds ++ (news ++ (Builtin.zeroCells z.cells (grownCap w (n + m) cap e - (n + m))).toList)).length = grownCap w (n + m) cap e * i.size := by
      simp only [List.length_append, Array.length_toList, size_zeroCells, hzs, hlo, hln, ← Nat.add_mul]
      congr 1
      omega
    refine ⟨.slice (some ⟨w.heap.size, 0, none⟩) (n + m) (grownCap w (n + m) cap e),
      w.drew.alloc (.cells (olds ++ (news ++ (Builtin.zeroCells z.cells (grownCap w (n + m) cap e - (n + m))).toList)).toArray e), ?_, rfl, rfl, rfl, by simp,
      .inr ⟨w.heap.size, 0, _, rfl, hge, ?_, ?_, .inr rfl, ?_⟩⟩
    · have hn0 : ¬ (n + m ≤ cap) := hroom
      simp [Builtin.append_, run_underlying ht, run_underlying ht', Go.sizeOf, typeInfo, zeroValue, hi, hz, Builtin.lenOf, hn0, h63', h48', Question.forced, hf0, hfo, newRow, grownCap]
      congr 2
      apply Array.ext'
      simp [List.append_assoc]
    · have := CellsAt.new w.drew (olds ++ (news ++ (Builtin.zeroCells z.cells (grownCap w (n + m) cap e - (n + m))).toList)) e
      rw [World.size_drew, ← List.append_assoc] at this
      have := (CellsAt.append.1 this).1
      rwa [← List.append_assoc]
    · have := OwnB.new w.drew (olds ++ (news ++ (Builtin.zeroCells z.cells (grownCap w (n + m) cap e - (n + m))).toList)) e (Nat.le_refl _)
      rw [World.size_drew, hsizes] at this
      rwa [Nat.zero_add]
    · intro k hk _
      exact heap_alloc_old w.drew _ hk
end VM
