/- From the reading of the arguments to a contract's premise, and from a contract to a law's row. -/
import Derived.Test.YtljofbhokcdklaaVOb
import Derived.ProofKit
import Derived.OpenShut
import Derived.Deep.Slices
import Derived.Below
set_option linter.unusedVariables false
set_option linter.unusedSimpArgs false
namespace VM
open Go Go.ChangeShapes Go.WideShapes Go.RowKit

/-- What the language itself bounds. -/
def OkD : (c : CK) → c.den → Prop
  | .int k, n => (Lit.int k n).wf = true
  | .bool, _ => True
  | .str, s => s.length ≤ maxLen
  | .sl e, xs => xs.length ≤ maxLen ∧ ∀ x ∈ xs, OkD e x
  | .unit, _ => True
  | .pair a b, x => OkD a x.1 ∧ OkD b x.2

mutual
/-- Is the type of that kind, all the way down? -/
def kT (P : Program) : CK → TypeId → Bool
  | .int k, t => match P.underlying t with | some (.int k') => decide (k' = k) | _ => false
  | .bool, t => match P.underlying t with | some .bool => true | _ => false
  | .str, t => match P.underlying t with | some .string => true | _ => false
  | .sl e, t => match P.underlying t with | some (.slice et) => Nat.beq (P.cellsOf et) e.size && (Nat.blt 0 e.size && kT P e et) | _ => false
  | .unit, t => match P.underlying t with | some (.struct ⟨[]⟩) => Nat.beq (P.cellsOf t) 0 | _ => false
  | .pair a b, t => match P.underlying t with
    | some (.struct ⟨f :: r⟩) => Nat.beq f.offset 0 && (Nat.beq (P.cellsOf f.type) a.size && (Nat.beq (P.cellsOf t) (a.size + b.size) && (kT P a f.type && fT P b r a.size)))
    | _ => false
def fT (P : Program) : CK → List Field → Nat → Bool
  | .unit, [], _ => true
  | .pair a b, f :: r, off => Nat.beq f.offset off && (Nat.beq (P.cellsOf f.type) a.size && (kT P a f.type && fT P b r (off + a.size)))
  | _, _, _ => false
end

section
variable {H : Type} {enc : TypeId × Value → H} {P : Program} {w : World} {base : Nat} {spare : Nat → Bool} {held : Bool}

def Zw (w : World) : Nat → Prop := fun b => b < w.heap.size

theorem cat_build {α : Type} {Q : α → List Value → Prop} {w : World} {b off sz : Nat} : ∀ n : Nat, (∀ i, i < n → ∃ (x : α) (cs : List Value), cs.length = sz ∧ (∀ j, j < sz → w.cell? ⟨b, off + (i * sz + j), none⟩ = cs[j]?) ∧ Q x cs) →
    ∃ xs vs, xs.length = n ∧ vs.length = n * sz ∧ CellsAt w b off vs ∧ Cat (fun x us fp => Q x us ∧ fp = []) xs vs [] ∧ ∀ x ∈ xs, ∃ cs, Q x cs
  | 0, _ => ⟨[], [], rfl, by simp, CellsAt.nil _ _ _, ⟨rfl, rfl⟩, by simp⟩
  | n + 1, h => by
    obtain ⟨xs, vs, h1, h2, h3, h4, h5⟩ := cat_build n (fun i hi => h i (by omega))
    obtain ⟨x, cs, k1, k2, k3⟩ := h n (by omega)
    refine ⟨xs ++ [x], vs ++ cs, by simp [h1], by rw [List.length_append, h2, k1, Nat.add_mul, Nat.one_mul], ?_, ?_, ?_⟩
    · rw [CellsAt.append]
      refine ⟨h3, fun j u hu => ?_⟩
      have hj : j < sz := by rw [← k1]; exact (List.getElem?_eq_some_iff.1 hu).1
      rw [h2, Nat.add_assoc, k2 j hj]
      exact hu
    · exact h4.append (Cat.one ⟨k3, rfl⟩)
    · intro y hy
      rcases List.mem_append.1 hy with hy | hy
      · exact h5 y hy
      · simp only [List.mem_singleton] at hy
        subst hy
        exact ⟨cs, k3⟩

theorem cell_at {a : Addr} {n : Nat} {u : Value} (h : w.cell? (a.add n) = some u) (h0 : a.spot = none) : w.cell? ⟨a.block, a.off + n, none⟩ = some u := by
  obtain ⟨b, o, s⟩ := a
  simp only at h0
  subst h0
  by_cases hn : n = 0
  · subst hn; simpa [Addr.add] using h
  · simpa [Addr.add, hn] using h
theorem cell_spot {a : Addr} {u : Value} (h : w.cell? a = some u) : a.spot = none := by
  unfold World.cell? at h
  split at h
  · split at h
    · cases h
    · next hs => simpa using hs
  · cases h
theorem cell_lt' {a : Addr} {u : Value} (h : w.cell? a = some u) : a.block < w.heap.size := by
  rcases Nat.lt_or_ge a.block w.heap.size with h' | h'
  · exact h'
  · simp [World.cell?, Array.getElem?_eq_none h'] at h

mutual
theorem kT_has : ∀ (c : CK) {t : TypeId} {fuel : Nat} {cs : List Value} {x : DataW H × List MemPlace}, kT P c t = true → DataW.trod enc P w base spare held fuel t cs = some x →
    ∃ y : c.den, Has (Zw w) w false c y cs [] ∧ OkD c y
  | .int k, t, fuel, cs, x, hk, h => by
    simp only [kT] at hk
    split at hk
    · next hu =>
      obtain ⟨n, rfl, _, hw⟩ := DataW.trod_int hu h
      rw [of_decide_eq_true hk] at hw ⊢
      exact ⟨n, ⟨rfl, rfl⟩, hw⟩
    · cases hk
  | .bool, t, fuel, cs, x, hk, h => by
    simp only [kT] at hk
    split at hk
    · next hu =>
      obtain ⟨b, rfl, _⟩ := DataW.trod_bool hu h
      exact ⟨b, ⟨rfl, rfl⟩, trivial⟩
    · cases hk
  | .str, t, fuel, cs, x, hk, h => by
    simp only [kT] at hk
    split at hk
    · next hu =>
      obtain ⟨s, rfl, _, hs⟩ := DataW.trod_string hu h
      exact ⟨s.data.toList, ⟨rfl, rfl⟩, hs⟩
    · cases hk
  | .sl e, t, fuel, cs, x, hk, h => by
    simp only [kT] at hk
    split at hk
    · next et hu =>
      simp only [Bool.and_eq_true, Nat.beq_eq, Nat.blt_eq] at hk
      obtain ⟨hsz, hpos, hke⟩ := hk
      rcases Go.Deep.open_slice hu h with ⟨rfl, _⟩ | ⟨a, len, cap, m, n, D, Pl, rfl, hb, hl, hm, hmm, hx, hi⟩
      · exact ⟨[], ⟨_, rfl, .inr ⟨rfl, rfl, none, 0, rfl, Nat.le_refl _, .inl rfl⟩⟩, Nat.zero_le _, by simp⟩
      · have hlm : len ≤ m := by rw [hmm]; split <;> omega
        rcases Nat.eq_zero_or_pos len with h0 | h0
        · subst h0
          exact ⟨[], ⟨_, rfl, .inr ⟨rfl, rfl, some a, cap, rfl, Nat.zero_le _, .inl rfl⟩⟩, Nat.zero_le _, by simp⟩
        · rw [hsz] at hi
          have hspot : a.spot = none ∧ a.block < w.heap.size := by
            obtain ⟨cs', hc, _⟩ := hi 0 (by omega)
            obtain ⟨_, k1, k2⟩ := World.cells?_some hc
            have := k2 0 hpos
            rw [List.getElem?_eq_getElem (by omega)] at this
            have h1 := cell_spot this
            have h2 := cell_lt' this
            simp [Addr.add] at h1 h2
            exact ⟨h1, h2⟩
          obtain ⟨xs, vs, g1, g2, g3, g4, g5⟩ := cat_build (Q := fun (y : e.den) us => Has (Zw w) w false e y us [] ∧ OkD e y) (w := w) (b := a.block) (off := a.off) (sz := e.size) len (fun i hilt => by
            obtain ⟨cs', hc, ht⟩ := hi i (by omega)
            obtain ⟨_, k1, k2⟩ := World.cells?_some hc
            obtain ⟨y, y1, y2⟩ := kT_has e hke ht
            refine ⟨y, cs', k1, fun j hj => ?_, y1, y2⟩
            have := k2 j hj
            rw [List.getElem?_eq_getElem (by omega)] at this ⊢
            refine cell_at (w := w) (a := a) (n := i * e.size + j) ?_ hspot.1
            rw [← this, Go.Deep.add_add])
          refine ⟨xs, ⟨_, rfl, .inr ⟨rfl, rfl, some a, cap, by rw [g1], by omega, .inr ⟨a.block, a.off, vs, [], ?_, g3, ?_, hspot.2⟩⟩⟩, by omega, fun x hx => ?_⟩
          · obtain ⟨bb, oo, ss⟩ := a
            have hss : ss = none := hspot.1
            rw [hss]
          · exact g4.mono _ fun x _ u f _ hq => by rw [hq.2]; exact hq.1.1
          · obtain ⟨cs, hq⟩ := g5 x hx
            exact hq.2
    · cases hk
  | .unit, t, fuel, cs, x, hk, h => by
    simp only [kT] at hk
    split at hk
    · next hu =>
      obtain ⟨ys, n, _, _, hl, _⟩ := DataW.trod_struct hu h
      rw [Nat.eq_of_beq_eq_true hk] at hl
      exact ⟨(), ⟨List.length_eq_zero_iff.1 hl, rfl⟩, trivial⟩
    · cases hk
  | .pair a b, t, fuel, cs, x, hk, h => by
    simp only [kT] at hk
    split at hk
    · next f r hu =>
      simp only [Bool.and_eq_true, Nat.beq_eq] at hk
      obtain ⟨k1, k2, k3, k4, k5⟩ := hk
      obtain ⟨ys, n, _, _, hl, hyl, hf⟩ := DataW.trod_struct hu h
      rw [k3] at hl
      have h0 := hf 0 f rfl
      rw [k1, k2, List.drop_zero] at h0
      have hy0 : 0 < ys.length := by rw [hyl]; simp
      rw [List.getElem?_eq_getElem hy0] at h0
      obtain ⟨y, y1, y2⟩ := kT_has a k4 h0
      obtain ⟨z, z1, z2⟩ := fT_has b (off := a.size) (n := n) (cs := cs) k5 (fun i g hg => by
        have hg' : (⟨f :: r⟩ : Array Field)[i + 1]? = some g := by simpa using hg
        have := hf (i + 1) g hg'
        have hlt : i + 1 < ys.length := by rw [hyl]; exact (Array.getElem?_eq_some_iff.1 hg').1
        rw [List.getElem?_eq_getElem hlt] at this
        exact ⟨_, this⟩) hl
      exact ⟨(y, z), ⟨cs.take a.size, cs.drop a.size, [], [], (List.take_append_drop _ _).symm, rfl, y1, z1⟩, y2, z2⟩
    · cases hk
theorem fT_has : ∀ (c : CK) {fs : List Field} {off n : Nat} {cs : List Value}, fT P c fs off = true → (∀ (i : Nat) (f : Field), fs[i]? = some f → ∃ x : DataW H × List MemPlace, DataW.trod enc P w base spare held n f.type ((cs.drop f.offset).take (P.cellsOf f.type)) = some x) →
    cs.length = off + c.size → ∃ y : c.den, Has (Zw w) w false c y (cs.drop off) [] ∧ OkD c y
  | .unit, fs, off, n, cs, hk, h, hl => by
    refine ⟨(), ⟨?_, rfl⟩, trivial⟩
    rw [List.drop_eq_nil_iff]
    simp only [CK.size] at hl
    omega
  | .pair a b, fs, off, n, cs, hk, h, hl => by
    cases fs with
    | nil => simp [fT] at hk
    | cons f r =>
      simp only [fT, Bool.and_eq_true, Nat.beq_eq] at hk
      obtain ⟨k1, k2, k4, k5⟩ := hk
      obtain ⟨x0, h0⟩ := h 0 f rfl
      rw [k1, k2] at h0
      obtain ⟨y, y1, y2⟩ := kT_has a k4 h0
      simp only [CK.size] at hl
      obtain ⟨z, z1, z2⟩ := fT_has b (off := off + a.size) (n := n) (cs := cs) k5 (fun i g hg => h (i + 1) g (by simpa using hg)) (by omega)
      refine ⟨(y, z), ⟨(cs.drop off).take a.size, cs.drop (off + a.size), [], [], ?_, rfl, y1, z1⟩, y2, z2⟩
      rw [← List.drop_drop, List.take_append_drop]
  | .int _, fs, off, n, cs, hk, h, hl => by simp [fT] at hk
  | .bool, fs, off, n, cs, hk, h, hl => by simp [fT] at hk
  | .str, fs, off, n, cs, hk, h, hl => by simp [fT] at hk
  | .sl _, fs, off, n, cs, hk, h, hl => by simp [fT] at hk
end

theorem okWide_valV {r : Reach} {b0 : Nat} {c : CK} {t : TypeId} {v : Value} (hk : kT P c t = true) (hv : Value.okWide P w r b0 t v) : v = valV c v.cells.toList := by
  cases c with
  | int k =>
    simp only [kT] at hk; split at hk
    · next hu => obtain ⟨n, rfl⟩ := okWide_int hu hv; rfl
    · cases hk
  | bool =>
    simp only [kT] at hk; split at hk
    · next hu => obtain ⟨n, rfl⟩ := okWide_bool hu hv; rfl
    · cases hk
  | str =>
    simp only [kT] at hk; split at hk
    · next hu => obtain ⟨n, rfl⟩ := okWide_string hu hv; rfl
    · cases hk
  | sl e =>
    simp only [kT] at hk; split at hk
    · next hu => obtain ⟨a, l, c, rfl⟩ := okWide_slice hu hv; rfl
    · cases hk
  | unit =>
    simp only [kT] at hk; split at hk
    · next hu => obtain ⟨cs, rfl, _⟩ := okWide_struct hu hv; simp [valV, CK.isAgg, Value.cells]
    · cases hk
  | pair a b =>
    simp only [kT] at hk; split at hk
    · next hu => obtain ⟨cs, rfl, _⟩ := okWide_struct hu hv; simp [valV, CK.isAgg, Value.cells]
    · cases hk

/-- The arguments' kinds: all are read. -/
def OkIn : (cs : List CK) → (inK (cs.map fun c => (PM.imm, c))).den → Prop
  | [], _ => True
  | c :: cs, x => OkD c x.1 ∧ OkIn cs x.2
def kTs (P : Program) : List CK → List TypeId → Bool
  | [], [] => true
  | c :: cs, t :: ts => kT P c t && (P.readableRec t && (decide (t < P.types.size) && kTs P cs ts))
  | _, _ => false

theorem insR_of {r : Reach} {b0 : Nat} : ∀ {cs : List CK} {ts : List TypeId} {vs : List Value} {ds : List (DataW H)} {ps : List MemPlace}, kTs P cs ts = true → DataW.TrodAll enc P w base spare held ts vs ds ps →
    (∀ (j : Nat) t v, ts[j]? = some t → vs[j]? = some v → Value.okWide P w r b0 t v) → ∃ x, InsR (Zw w) w (cs.map fun c => (PM.imm, c)) x vs [] ∧ OkIn cs x
  | [], [], vs, ds, ps, hk, h, hv => by
    obtain ⟨rfl, _, _⟩ := trodAll_nil h
    exact ⟨(), rfl, trivial⟩
  | c :: cs, t :: ts, vs, ds, ps, hk, h, hv => by
    obtain ⟨v, vs', d, ds', p, q, rfl, rfl, rfl, h1, h2⟩ := trodAll_cons h
    simp only [kTs, Bool.and_eq_true] at hk
    obtain ⟨k1, _, _, k2⟩ := hk
    obtain ⟨fuel, hf⟩ := h1
    obtain ⟨y, y1, y2⟩ := kT_has c k1 hf
    obtain ⟨x, x1, x2⟩ := insR_of (cs := cs) (ts := ts) k2 h2 (fun j t v ht hv' => hv (j + 1) t v (by simpa using ht) (by simpa using hv'))
    exact ⟨(y, x), ⟨⟨_, okWide_valV k1 (hv 0 t v rfl rfl), y1⟩, x1⟩, y2, x2⟩
  | [], _ :: _, _, _, _, hk, _, _ => by cases hk
  | _ :: _, [], _, _, _, hk, _, _ => by cases hk

theorem trodAll_stays (hl : laidOutB P = true) {W W' : World} {sp' : Nat → Bool} : ∀ {cs : List CK} {ts : List TypeId} {vs : List Value} {ds : List (DataW H)} {ps : List MemPlace}, kTs P cs ts = true →
    DataW.TrodAll enc P W base (fun _ => true) true ts vs ds ps → (∀ p ∈ ps, W.sameAt W' p) → (∀ p ∈ ps, sp' p.block = true) → DataW.TrodAll enc P W' base sp' true ts vs ds ps
  | [], [], vs, ds, ps, hk, h, _, _ => by
    obtain ⟨rfl, rfl, rfl⟩ := trodAll_nil h
    exact trodAll_mk0
  | c :: cs, t :: ts, vs, ds, ps, hk, h, hs, hsp => by
    obtain ⟨v, vs', d, ds', p, q, rfl, rfl, rfl, h1, h2⟩ := trodAll_cons h
    simp only [kTs, Bool.and_eq_true, decide_eq_true_eq] at hk
    obtain ⟨k1, k3, k4, k2⟩ := hk
    exact trodAll_cons_mk (Go.WideElems.Trod_stays hl k3 k4 h1 (fun x hx => hs x (List.mem_append_left _ hx)) (fun x hx => hsp x (List.mem_append_left _ hx)))
      (trodAll_stays hl k2 h2 (fun x hx => hs x (List.mem_append_right _ hx)) (fun x hx => hsp x (List.mem_append_right _ hx)))
  | [], _ :: _, _, _, _, hk, _, _, _ => by cases hk
  | _ :: _, [], _, _, _, hk, _, _, _ => by cases hk

theorem post_of_below {f : Func} {s : ChangeSpec} {apart fresh handsOn again : Bool} {W W' : World} {args : Array Value} {v : Value} {ds gs : List (DataW H)} {before pa pv : List MemPlace}
    (hW : DataW.Whole enc P f.params.toList s.vars apart W args.toList ds gs before)
    (hres : ∀ (b : Nat) (sp : Nat → Bool) (hd : Bool), DataW.TrodAll enc P W' b sp hd f.resultTypes.toList (v.resultList f.resultTypes.size) (s.fn H (ds ++ gs)).results [])
    (hargs : ∀ sp : Nat → Bool, (∀ p ∈ before, sp p.block = true) → DataW.TrodAll enc P W' 0 sp true f.params.toList args.toList (s.fn H (ds ++ gs)).args pa)
    (hvars : ∀ sp : Nat → Bool, (∀ p ∈ before, sp p.block = true) → DataW.TrodVars enc P W' sp s.vars (s.fn H (ds ++ gs)).vars pv)
    (hps : before = pa ++ pv) (hb : Below W.heap.size W W')
    (hok : ∀ (j : Nat) (t : TypeId) (r : Value), f.resultTypes[j]? = some t → (v.resultList f.resultTypes.size)[j]? = some r → Value.okWide P W' .any 0 t r) :
    s.post enc P f apart fresh handsOn again W args v W' := by
  have hlt : ∀ p ∈ before, p.block < W.heap.size := fun p hp => hW.lt p hp
  have hold : ∀ p ∈ before, (fun b => decide (b < W.heap.size)) p.block = true := fun p hp => by simpa using hlt p hp
  refine ⟨ds, gs, before, [], pa, pv, hW, hres _ _ _, hargs _ hold, hvars _ hold, World.keptBut_mono (fun p hp => ⟨hp, ?_⟩) (hb.frame (· ∈ before)), fun _ => ?_⟩
  · rw [hps, List.mem_append] at hp
    exact Or.inr hp
  · obtain ⟨_, _, _, _, _, hz, hn⟩ := hW
    refine ⟨hok, _, _, ([] ++ pa) ++ pv, ⟨[] ++ pa, pv, trodAll_append (hargs _ (fun _ _ => rfl)) (hres _ _ _), hvars _ (fun _ _ => rfl), rfl, ?_, ?_⟩, ?_⟩
    · intro b off hp
      have hin : MemPlace.cell b off ∈ before := by rw [hps]; simpa using hp
      rw [hb.frozen (hlt _ hin)]
      exact hz b off hin
    · intro ha
      have := hn ha
      rw [hps] at this
      simpa using this
    · intro p hp _
      rw [hps]
      simpa using hp

/-- A law whose contract says true for all arguments. -/
theorem law_calls {f : FuncId} {fn : Func} {s : ChangeSpec} {cs : List CK} {tb : TypeId} {apart fresh handsOn again : Bool} {run : Nat → (inK (cs.map fun c => (PM.imm, c))).den → Option (Sg.Out ⟨cs.map fun c => (PM.imm, c), [(.imm, .bool)]⟩)}
    (hc : SoundC P ⟨f, ⟨cs.map fun c => (PM.imm, c), [(.imm, .bool)]⟩, run⟩) (hl : laidOutB P = true) (hk : kTs P cs fn.params.toList = true) (hres : fn.resultTypes = #[tb]) (htb : P.underlying tb = some .bool)
    (hvars : s.vars = []) (hspec : ∀ ds : List (DataW H), ds.length = cs.length → s.fn H ds = { results := [.lit (.bool true)], args := ds })
    (W : World) (base : Nat) (args : Array Value) (ds gs : List (DataW H)) (before : List MemPlace)
    (htrue : ∀ x, OkIn cs x → InsR (Zw W) W (cs.map fun c => (PM.imm, c)) x args.toList [] → ∃ k m, run k x = some ((true, ()), m))
    (hval : ∀ (j : Nat) t v, fn.params[j]? = some t → args[j]? = some v → Value.okWide P W .any base t v)
    (hW : DataW.Whole enc P fn.params.toList s.vars apart W args.toList ds gs before) :
    Calls P f args W fun e W' => ∃ v, e = .returned v ∧ s.post enc P fn apart fresh handsOn again W args v W' := by
  have hW' := hW
  obtain ⟨p, q, hA, hV, rfl, _, _⟩ := hW
  rw [hvars] at hV
  obtain ⟨rfl, rfl⟩ := trodVars_none hV
  obtain ⟨x, hins, hok⟩ := insR_of (r := .any) (b0 := base) hk hA (fun j t v ht hv => hval j t v (by simpa using ht) (by simpa using hv))
  obtain ⟨k, m, hrun⟩ := htrue x hok hins
  have key := hc.run k x _ hrun (Zw W) W args.toList [] hins List.nodup_nil (by simp) (fun b h => h)
  have hlen : ds.length = cs.length := by
    have h1 : ∀ {cs : List CK} {ts : List TypeId} {vs : List Value} {ds : List (DataW H)} {ps : List MemPlace}, kTs P cs ts = true → DataW.TrodAll enc P W 0 (fun _ => true) true ts vs ds ps → ds.length = cs.length := by
      intro cs
      induction cs with
      | nil =>
        intro ts vs ds ps hk h
        cases ts with
        | nil => obtain ⟨_, rfl, _⟩ := trodAll_nil h; rfl
        | cons => cases hk
      | cons c cs ih =>
        intro ts vs ds ps hk h
        cases ts with
        | nil => cases hk
        | cons t ts =>
          obtain ⟨v, vs', d, ds', p, q, rfl, rfl, rfl, _, h2⟩ := trodAll_cons h
          simp only [kTs, Bool.and_eq_true] at hk
          simp [ih hk.2.2.2 h2]
    exact h1 hk hA
  refine Calls.mono key ?_
  rintro e W' ⟨vs, rfl, Z', fm, fr, hp⟩
  have hb : Below W.heap.size W W' := ⟨hp.os, hp.tp, hp.ou, hp.sz, fun b hb => hp.fr b hb (by simp)⟩
  have hr := hp.ress
  match vs, hr with
  | [v], hr =>
    obtain ⟨⟨us, rfl, hus⟩, _⟩ := hr
    obtain ⟨rfl, _⟩ := hus
    simp only [List.append_nil] at hW'
    have hsp := hspec ds hlen
    refine ⟨_, rfl, post_of_below (pa := p) (pv := []) hW' ?_ ?_ ?_ (by simp) hb ?_⟩
    · intro b sp hd
      rw [List.append_nil, hsp, hres]
      exact trodAll_mk1 (shut_bool htb _)
    · intro sp hspp
      rw [List.append_nil, hsp]
      exact trodAll_stays hl hk hA (fun x hx => hb.same (by simpa using hW'.lt x hx)) (fun x hx => hspp x hx)
    · intro sp _
      rw [hvars, List.append_nil, hsp]
      rfl
    · exact ok_one hres rfl (okWide_bool_mk htb _)
end
end VM
