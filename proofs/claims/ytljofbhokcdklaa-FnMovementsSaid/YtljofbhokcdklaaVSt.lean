/- slices.Sort at strings, as a contract of the machine. -/
import Derived.Test.YtljofbhokcdklaaVOb
import Derived.Shelf.Slices.In.SortNone
import Derived.Shelf.Sort.Plain
set_option linter.unusedVariables false
set_option linter.unusedSimpArgs false
namespace VM
open Go Go.Shelf Go.Sort Go.Proofs

def gSortS : Sg := ⟨[(.mut, .sl .str)], []⟩
def sortS (xs : List (List UInt8)) : List (List UInt8) := xs.mergeSort fun x y => decide (x ≤ y)
def runSortS (xs : List (List UInt8)) : Option (PUnit × List (List UInt8) × Unit) := bif decide (xs.length < 4611686018427387904) then some ((), (sortS xs, ())) else none

theorem catStr {Z : Nat → Prop} {w : World} : ∀ {xs : List (List UInt8)} {us : List Value} {fp : List Nat}, Cat (Has Z w true .str) xs us fp ↔ us = xs.map strV ∧ fp = []
  | [], us, fp => Iff.rfl
  | x :: xs, us, fp => by
    constructor
    · rintro ⟨u1, u2, f1, f2, rfl, rfl, ⟨rfl, rfl⟩, h⟩
      obtain ⟨rfl, rfl⟩ := catStr.1 h
      exact ⟨rfl, rfl⟩
    · rintro ⟨rfl, rfl⟩
      exact ⟨[strV x], xs.map strV, [], [], rfl, rfl, ⟨rfl, rfl⟩, catStr.2 ⟨rfl, rfl⟩⟩

theorem sortS_length (xs : List (List UInt8)) : (sortS xs).length = xs.length := List.length_mergeSort ..

theorem sortS_sound {P : Program} {ρ : Ren} (L : Lays.n190 P ρ) {f : FuncId} (hf : ρ.f 190 = f) {run : Nat → gSortS.In → Option gSortS.Out} (hrun : ∀ k x y, run k x = some y → runSortS x.1 = some y)
    (hcall : ∀ args w, (callFunc f args).run P w = .ok (.enter f args) w) : SoundC P ⟨f, gSortS, run⟩ := by
  refine ⟨hcall, ?_⟩
  intro k x y hy Z w us fp hin hnd hfp hZ
  have hy := hrun k x y hy
  obtain ⟨xs, ⟨⟩⟩ := x
  obtain ⟨hlen, hy⟩ := cond_some hy
  have hlen : xs.length < 4611686018427387904 := by simpa using hlen
  have hy : ((), sortS xs, ()) = y := Option.some.inj hy
  subst hy
  subst hf
  match us, hin with
  | [v], hin =>
    obtain ⟨vs, f1, f2, hff, hv0, ⟨u, hu0, hrow⟩, hf2⟩ := hin
    have hf2 : f2 = [] := hf2
    subst hf2
    subst hu0
    subst hv0
    subst hff
    have hrow : Row Z w true .str xs v f1 := by
      rcases hrow with ⟨_, h⟩ | ⟨h, _⟩
      · exact h
      · cases h
    simp only [List.append_nil] at hnd hfp ⊢
    obtain ⟨A, cap, rfl, hle, hor⟩ := hrow
    have hval : valV (.sl .str) [Value.slice A xs.length cap] = .slice A xs.length cap := rfl
    have fin : ∀ w', Has Z w' true (.sl .str) (sortS xs) [.slice A xs.length cap] f1 → w'.os = w.os → w'.tape = w.tape → w'.output = w.output → w.heap.size ≤ w'.heap.size → (∀ b, b < w.heap.size → b ∉ f1 → w'.heap[b]? = w.heap[b]?) →
        ∃ vs, Ending.returned (.tuple #[]) = Ending.returned (retVal vs) ∧ ∃ Z' fm fr, CallPost Z w f1 gSortS [.slice A xs.length cap] ((), (sortS xs, ())) w' vs Z' fm fr := by
      intro w' hh h1 h2 h3 h4 h5
      refine ⟨[], rfl, Z, f1, [], ⟨⟨[.slice A xs.length cap], f1, [], by simp, hval.symm, rfl, hh, rfl⟩, rfl, by simpa using hnd, fun b hb => ⟨(hfp b (by simpa using hb)).1, .inl (by simpa using hb)⟩, fun b h => h, fun b h => .inl h, fun b h => by have := hZ b h; omega, h1, h2, h3, h4, h5⟩⟩
    rcases hor with ⟨rfl, rfl, rfl, rfl⟩ | ⟨b, off, vs, fs, rfl, hc, hcat, rfl, arr, ty, hb, harr⟩
    · refine (Any.slices_Sort_string_none L none 0 w).mono ?_
      rintro e w' ⟨rfl, rfl⟩
      refine fin w' ?_ rfl rfl rfl (Nat.le_refl _) (fun _ _ _ => rfl)
      have : sortS [] = [] := by simp [sortS]
      rw [this]
      exact ⟨_, rfl, .inl ⟨rfl, none, 0, rfl, Nat.le_refl _, .inl ⟨rfl, rfl, rfl, rfl⟩⟩⟩
    · obtain ⟨rfl, rfl⟩ := catStr.1 hcat
      have hbl : b < w.heap.size := (Array.getElem?_eq_some_iff.1 hb).1
      simp only [CK.size, Nat.mul_one] at harr
      have henc : ∀ s : List UInt8, encStr s = strV s := fun s => rfl
      have hH : Holds encStr w b off xs.toArray := by
        intro j hj
        have hj : j < xs.length := by simpa using hj
        refine ⟨?_, ?_⟩
        · have := hc j (strV xs[j]) (by simp [hj])
          rw [this, henc]
          simp [hj]
        · simp [World.frozen?, hb]
      refine (Any.slices_Sort_string L b off cap xs w hH hbl hlen).mono ?_
      rintro e w' ⟨rfl, n, os, rfl⟩
      have hsz : (sortS xs).toArray.size = xs.toArray.size := by simp [sortS_length]
      have hH' := holds_putRow encStr (Sort.ahead w n) b off xs.toArray (sortS xs).toArray hH hsz
      have hnew : (grow (putRow encStr (Sort.ahead w n) b off (sortS xs).toArray) os).heap[b]? = some (.cells (putCells encStr off (sortS xs).toArray arr) ty (0, 0)) := by
        rw [heap_grow_old _ _ (by simpa using hbl)]
        show ((Sort.ahead w n).heap.modify b _)[b]? = _
        rw [Sort.heap_ahead, Array.getElem?_modify, if_pos rfl, hb]
        rfl
      refine fin _ ?_ rfl rfl rfl (by simp) ?_
      · refine ⟨_, rfl, .inl ⟨rfl, some ⟨b, off, none⟩, cap, by rw [sortS_length], by rw [sortS_length]; exact hle, .inr ⟨b, off, (sortS xs).map strV, [], rfl, ?_, catStr.2 ⟨rfl, rfl⟩, rfl, _, ty, hnew, ?_⟩⟩⟩
        · intro j u hu
          rw [List.getElem?_map, Option.map_eq_some_iff] at hu
          obtain ⟨s, hs, rfl⟩ := hu
          have hj : j < (sortS xs).length := (List.getElem?_eq_some_iff.1 hs).1
          rw [cell?_grow _ _ _ (by simpa using hbl)]
          refine ((hH' j (by simpa using hj)).1).trans ?_
          rw [henc]
          obtain ⟨hj', hs'⟩ := List.getElem?_eq_some_iff.1 hs
          rw [getElem!_pos (sortS xs).toArray j (by simpa using hj')]
          exact congrArg (fun s => some (strV s)) (by simpa using hs')
        · simp only [CK.size, Nat.mul_one, putCells, Array.size_mapIdx]; exact harr
      · intro b' hb' hne
        simp only [List.mem_singleton] at hne
        rw [heap_grow_old _ _ (by simpa using hb')]
        simp only [putRow, mapBlock, Sort.heap_ahead]
        rw [Array.getElem?_modify]
        simp [Ne.symm hne]
end VM
