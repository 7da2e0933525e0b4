/- Maps: made, looked up, written. -/
import Derived.Test.YtljofbhokcdklaaVMs
import Derived.MapKept
set_option linter.unusedVariables false
set_option linter.unusedSimpArgs false
namespace VM
open Go Go.MapKept

section
variable {k e : CK}
theorem mhas_cons {α β : Type} [DecidableEq α] (a : α) (b : β) (l : List (α × β)) (x : α) : mhas ((a, b) :: l) x = (bif decide (x = a) then true else mhas l x) := rfl

theorem strV_inj {s t : List UInt8} : strV s = strV t ↔ s = t := by
  constructor
  · intro h
    simp only [strV, Value.string.injEq] at h
    have := congrArg (fun b : ByteArray => b.data.toList) h
    simpa using this
  · rintro rfl; rfl

theorem celV_key {d : TypeDesc} (hd : keyD k = some d) (x : k.den) : IsKey d (celV k x) := by
  cases k <;> simp only [keyD, Option.some.injEq] at hd <;> try cases hd
  all_goals simp [celV, IsKey, strV]

theorem cellOf_sound {c : CK} {v : CV} {x : c.den} (h : cellOf c v = some x) {g : Gh} {w : World} {h' : Nat → RE} {u : Value} (hu : CVr g w h' v u) : u = celV c x := by
  cases c <;> cases v <;> simp only [cellOf] at h <;> try cases h
  · split at h
    · next hk => cases h; subst hk; exact hu
    · cases h
  · exact hu
  · exact hu
theorem cellC_rel {c : CK} (hc : c.pl = true) (x : c.den) (g : Gh) (w : World) (h : Nat → RE) : CVr g w h (cellC c x) (celV c x) := by
  cases c <;> simp only [CK.pl] at hc <;> first | rfl | cases hc
theorem celV_zero {c : CK} (hc : c.pl = true) : zeroV c = celV c c.dflt := by
  cases c <;> simp only [CK.pl] at hc <;> first | rfl | cases hc

/-- What is found, and what lies there then. -/
theorem ent_find {α β : Type} [DecidableEq α] {d : TypeDesc} {kv : α → Value} {ev : β → Value} (hk : ∀ x, IsKey d (kv x)) (hi : ∀ x y, kv x = kv y → x = y) :
    ∀ {xs : List (α × β)} {l : List MapEntry} (x : α) (i : Nat) (d0 : β), All2 (fun p m => m.key = kv p.1 ∧ m.val = ev p.2) xs l →
      (mhas xs x = false ∧ Instr.findNow d (kv x) l i = some none ∧ mfd xs x d0 = d0 ∧ (∀ y, mput xs x y = xs ++ [(x, y)])) ∨
      (mhas xs x = true ∧ ∃ j, Instr.findNow d (kv x) l i = some (some (i + j, ev (mfd xs x d0))) ∧ (∃ m, l[j]? = some m ∧ m.key = kv x) ∧
        ∀ (f : MapEntry → MapEntry) (y : β), (∀ m, (f m).key = kv x ∧ (f m).val = ev y) → All2 (fun p m => m.key = kv p.1 ∧ m.val = ev p.2) (mput xs x y) (l.modify j f))
  | [], [], x, i, d0, _ => .inl ⟨rfl, rfl, rfl, fun _ => rfl⟩
  | (a, b) :: xs, m :: l, x, i, d0, ⟨⟨h1, h2⟩, h3⟩ => by
    obtain ⟨r, hr, hiff⟩ := sameNow_of_keys (hk x) (hk a)
    have hfn : Instr.findNow d (kv x) (m :: l) i = match r with | true => some (some (i, m.val)) | false => Instr.findNow d (kv x) l (i + 1) := by
      simp only [Instr.findNow, h1, hr]
      cases r <;> rfl
    cases r with
    | true =>
      have hxa : x = a := hi _ _ (hiff.1 rfl)
      right
      subst hxa
      refine ⟨by simp [mhas], 0, by rw [hfn]; simp [mfd, h2], ⟨m, rfl, h1⟩, fun f y hf => ?_⟩
      simp only [mput, decide_true, cond_true, List.modify, List.modifyTailIdx, List.modifyHead]
      exact ⟨hf m, h3⟩
    | false =>
      have hxa : x ≠ a := fun q => by have := hiff.2 (by rw [q]); cases this
      have hd : decide (x = a) = false := by simp [hxa]
      rcases ent_find hk hi x (i + 1) d0 h3 with ⟨k1, k2, k3, k4⟩ | ⟨k1, j, k2, ⟨m', k3, k3'⟩, k4⟩
      · left
        exact ⟨by simp [mhas, hd, k1], by rw [hfn]; exact k2, by simp [mfd, hd, k3], fun y => by simp [mput, hd, k4]⟩
      · right
        refine ⟨by simp [mhas, hd, k1], j + 1, by rw [hfn]; simp only [mfd, hd, cond_false]; rw [k2]; simp; omega, ⟨m', by simpa using k3, k3'⟩, fun f y hf => ?_⟩
        simp only [mput, hd, cond_false]
        show All2 _ _ (m :: l.modify j f)
        exact ⟨⟨h1, h2⟩, k4 f y hf⟩
  | [], _ :: _, _, _, _, h => h.elim
  | _ :: _, [], _, _, _, h => h.elim

theorem entK {d : TypeDesc} (hd : keyD k = some d) {xs : List (k.den × e.den)} {l : List MapEntry} (x : k.den) (h : All2 (EntR k e) xs l) :
      (mhasK k e xs x = false ∧ Instr.findNow d (celV k x) l 0 = some none ∧ mfdK k e xs x = e.dflt ∧ (∀ y, mputK k e xs x y = xs ++ [(x, y)])) ∨
      (mhasK k e xs x = true ∧ ∃ j, Instr.findNow d (celV k x) l 0 = some (some (j, celV e (mfdK k e xs x))) ∧ (∃ m, l[j]? = some m ∧ m.key = celV k x) ∧
        ∀ (f : MapEntry → MapEntry) (y : e.den), (∀ m, (f m).key = celV k x ∧ (f m).val = celV e y) → All2 (EntR k e) (mputK k e xs x y) (l.modify j f)) := by
  cases k with
  | int q =>
    simp only [keyD, Option.some.injEq] at hd; subst hd
    have := ent_find (α := Int) (d := .int q) (kv := celV (.int q)) (ev := celV e) (fun x => rfl) (fun x y h => by simpa [celV] using h) x 0 e.dflt h
    simp only [Nat.zero_add] at this; exact this
  | bool =>
    simp only [keyD, Option.some.injEq] at hd; subst hd
    have := ent_find (α := Bool) (d := .bool) (kv := celV .bool) (ev := celV e) (fun x => trivial) (fun x y h => by simpa [celV] using h) x 0 e.dflt h
    simp only [Nat.zero_add] at this; exact this
  | str =>
    simp only [keyD, Option.some.injEq] at hd; subst hd
    have := ent_find (α := List UInt8) (d := .string) (kv := celV .str) (ev := celV e) (fun x => trivial) (fun x y h => strV_inj.1 h) x 0 e.dflt h
    simp only [Nat.zero_add] at this; exact this
  | _ => simp [keyD] at hd
end

section
variable {P : Program} {F : Fx} {σ : St} {a : Act} {w : World} {g : Gh} {R : Type} {tt : List (Nat × TD)} {env : List Ct} {k : Nat} {o : Oper} {H : Nat → RE} {K : Upd → Option R} {y : R}

theorem keyD_pl {c : CK} {d : TypeDesc} (h : keyD c = some d) : c.pl = true := by
  cases c <;> first | rfl | (simp [keyD] at h)

theorem act_makeMap (htt : TTok P tt) (r : Rl F σ a w g) (hH : HOk H σ.h o.dst) (hn : NwOk F o) {t : TypeId} {q : Option Operand} (ho : o.op = .makeMap t q) (h : act tt env k o (o.op.operands.toList.map σ.ev) H K = some y) : Goal P F σ a w g o K y := by
  unfold act at h
  rw [ho] at h
  cases q with
  | some q => cases h
  | none =>
    simp only [Op.operands] at h
    split at h
    · split at h
      · rename_i k e hl
        obtain ⟨kt, et, d, _, hkd, _, _, he⟩ := htt.mp t k e hl
        have hm := hH.n 0 (by omega)
        obtain ⟨g', r', hz, hl', hf, _, x⟩ := Rl.make (c := .map k e []) r hm (fun p hp => hn p hp 0 (by omega)) (T := []) (by simp) (v := .map (some w.heap.size)) (fp := [w.heap.size])
          (w' := w.alloc (.map #[] 0)) (Z' := g.Z) (fun b hb => hb) (fun b hb => .inl hb) rfl rfl rfl (by simp) (fun b hb _ => heap_alloc_old w _ hb) (by simp)
          (fun b hb => by
            simp only [List.mem_singleton] at hb
            subst hb
            exact ⟨fun hz => by have := r.zl _ hz; omega, .inl (Nat.le_refl _)⟩)
          (fun h' g' hz x => ⟨keyD_pl hkd, he, w.heap.size, #[], 0, rfl, rfl, heap_alloc_new w _, trivial⟩)
        refine ⟨_, h, OpPost.value (w' := w.alloc (.map #[] 0)) (v := .map (some w.heap.size)) ?_ ⟨g', r', ?_⟩⟩
        · unfold execOp
          rw [ho]
          simp [Instr.makeMap]
        · refine ⟨⟨?_, rfl⟩, fun _ k e xs hc' => hl'.symm⟩
          show _ ≤ (setH σ.h [(nid o.dst 0, ⟨(H (nid o.dst 0)).inc + 1, 0, .map k e []⟩)] (nid o.dst 0)).inc
          rw [setH_cons, if_pos rfl]
          exact Nat.le_refl _
      · cases h
    · cases h

theorem mapAt_sound (r : Rl F σ a w g) {d : Option Nat} (hH : HOk H σ.h d) {id inc : Nat} {m : Map1} (h : mapAt H id inc = some m) : H id = σ.h id ∧ inc = (σ.h id).inc ∧ (σ.h id).c = .map m.k m.e m.xs := by
  unfold mapAt at h
  cases hr : H id with
  | mk i v c =>
    rw [hr] at h
    cases c with
    | map k e xs =>
      simp only at h
      obtain ⟨hi, h⟩ := cond_some h
      have hi := Nat.eq_of_beq_eq_true hi
      simp only [Option.some.injEq] at h
      subst h
      have := hH.c id (by rw [hr]; simp)
      rw [hr] at this
      exact ⟨this, by rw [← this]; exact hi.symm, by rw [← this]⟩
    | none => cases h
    | row => cases h
    | var => cases h

theorem act_lookup (htt : TTok P tt) (r : Rl F σ a w g) (hH : HOk H σ.h o.dst) {t : TypeId} {x z : Operand} {ok : Bool} (ho : o.op = .lookup t x z ok) (h : act tt env k o (o.op.operands.toList.map σ.ev) H K = some y) : Goal P F σ a w g o K y := by
  unfold act at h
  rw [ho] at h
  simp only [Op.operands] at h
  split at h
  case h_2 => cases h
  rename_i id inc kv hv
  simp at hv
  have hx : CVr g w σ.h (.map id inc) (a.eval x) := by have := ev_sound r x; rw [hv.1] at this; exact this
  have hz : CVr g w σ.h kv (a.eval z) := by have := ev_sound r z; rw [hv.2] at this; exact this
  split at h
  case h_2 => cases h
  rename_i k e hl
  obtain ⟨kt, et, d, hu, hkd, hdk, het, he⟩ := htt.mp t k e hl
  split at h
  case h_2 => cases h
  rename_i m hm
  obtain ⟨m1, m2, m3⟩ := mapAt_sound r hH hm
  split at h
  case isFalse => cases h
  rename_i hke
  obtain ⟨rfl, rfl⟩ := hke
  split at h
  case h_2 => cases h
  rename_i xk hxk
  have hkey := cellOf_sound hxk hz
  have hloc := hx.2 m2 _ _ _ m3
  have hrr := r.rt id
  unfold RR at hrr
  rw [m3] at hrr
  obtain ⟨hp1, hp2, b, es, clk, n1, n2, n3, n4⟩ := hrr
  rw [n1] at hloc
  have hzero : (zeroValue et).run P w = .ok (celV m.e m.e.dflt) w := by rw [het.zeroV, celV_zero he]
  have run : (execOp a.eval o).run P w = .ok (.value (if ok then .tuple #[celV m.e (mfdK m.k m.e m.xs xk), .bool (mhasK m.k m.e m.xs xk)] else celV m.e (mfdK m.k m.e m.xs xk))) w := by
    unfold execOp
    rw [ho]
    rcases entK (e := m.e) hkd xk n4 with ⟨q1, q2, q3, q4⟩ | ⟨q1, j, q2, q3, q4⟩
    · simp [hloc, hkey, Instr.lookup, run_underlying hu, run_getObj_map n3, run_checkKey hdk (celV_key hkd xk), run_findKey hdk q2, hzero, q3, q1]
    · simp [hloc, hkey, Instr.lookup, run_underlying hu, run_getObj_map n3, run_checkKey hdk (celV_key hkd xk), run_findKey hdk q2, q1]
  cases ok with
  | true =>
    refine goal_pure r h run ⟨[celV m.e (mfdK m.k m.e m.xs xk), .bool (mhasK m.k m.e m.xs xk)], rfl, ?_⟩
    refine ⟨?_, ?_, trivial⟩
    · simp only [Bool.false_eq_true, if_false]; exact ⟨_, rfl, cellC_rel he _ _ _ _⟩
    · simp only [Bool.false_eq_true, if_false]; exact ⟨_, rfl, rfl⟩
  | false => exact goal_pure r h run (cellC_rel he _ _ _ _)

theorem act_mapUpdate (htt : TTok P tt) (r : Rl F σ a w g) (hH : HOk H σ.h o.dst) {t : TypeId} {x z v : Operand} (ho : o.op = .mapUpdate t x z v) (h : act tt env k o (o.op.operands.toList.map σ.ev) H K = some y) : Goal P F σ a w g o K y := by
  unfold act at h
  rw [ho] at h
  simp only [Op.operands] at h
  split at h
  case h_2 => cases h
  rename_i id inc kv vv hv
  simp at hv
  have hx : CVr g w σ.h (.map id inc) (a.eval x) := by have := ev_sound r x; rw [hv.1] at this; exact this
  have hz : CVr g w σ.h kv (a.eval z) := by have := ev_sound r z; rw [hv.2.1] at this; exact this
  have hvv : CVr g w σ.h vv (a.eval v) := by have := ev_sound r v; rw [hv.2.2] at this; exact this
  split at h
  case h_2 => cases h
  rename_i k e hl
  obtain ⟨kt, et, d, hu, hkd, hdk, het, he⟩ := htt.mp t k e hl
  split at h
  case h_2 => cases h
  rename_i m hm
  obtain ⟨m1, m2, m3⟩ := mapAt_sound r hH hm
  split at h
  case isFalse => cases h
  rename_i hke
  obtain ⟨rfl, rfl⟩ := hke
  split at h
  case h_2 => cases h
  rename_i xk hxk
  split at h
  case h_2 => cases h
  rename_i yv hyv
  have hkey := cellOf_sound hxk hz
  have hval := cellOf_sound hyv hvv
  have hloc := hx.2 m2 _ _ _ m3
  have hrr := r.rt id
  unfold RR at hrr
  rw [m3] at hrr
  obtain ⟨hp1, hp2, b, es, clk, n1, n2, n3, n4⟩ := hrr
  have hloc' := hloc
  rw [n1] at hloc
  have main : ∃ es' clk', (execOp a.eval o).run P w = .ok .skip { w with heap := w.heap.setIfInBounds b (.map es' clk') } ∧ All2 (EntR m.k m.e) (mputK m.k m.e m.xs xk yv) es'.toList := by
    rcases entK (e := m.e) hkd xk n4 with ⟨q1, q2, q3, q4⟩ | ⟨q1, j, q2, ⟨me, q3, q3'⟩, q4⟩
    · refine ⟨es.push { key := celV m.k xk, val := celV m.e yv, born := clk }, clk + 1, ?_, ?_⟩
      · unfold execOp
        rw [ho]
        simp [hloc, hkey, hval, Instr.mapUpdate, run_underlying hu, run_getObj_map n3, run_checkKey hdk (celV_key hkd xk), run_findKey hdk q2, run_setObj_map _ n3]
      · rw [q4, Array.toList_push]
        exact n4.append ⟨⟨rfl, rfl⟩, trivial⟩
    · refine ⟨es.modify j fun e => { e with key := celV m.k xk, val := celV m.e yv }, clk, ?_, ?_⟩
      · have q3a : es[j]? = some me := by simpa using q3
        unfold execOp
        rw [ho]
        simp [hloc, hkey, hval, Instr.mapUpdate, run_underlying hu, run_getObj_map n3, run_checkKey hdk (celV_key hkd xk), run_findKey hdk q2, run_setObj_map _ n3, q3a, q3', run_keyThatStays (celV_key hkd xk)]
      · rw [Array.toList_modify]
        exact q4 _ yv (fun m => ⟨rfl, rfl⟩)
  obtain ⟨es', clk', run, hent⟩ := main
  obtain ⟨hs1, hs2⟩ := heap_set (w := w) (o' := .map es' clk') n3
  obtain ⟨g', r', hZ, x'⟩ := Rl.mod (H := H) (T := []) (c := .map m.k m.e (mputK m.k m.e m.xs xk yv)) (ver := (σ.h id).ver) (fp := [b]) (w' := { w with heap := w.heap.setIfInBounds b (.map es' clk') }) (Z' := g.Z)
    r m1 (by simp) (by simp) (Nat.le_refl _) (fun _ h => h) (fun _ h => .inl h) rfl rfl rfl (by simp) (fun k _ hk => by
      rw [n2] at hk
      exact hs2 k (by simpa using hk)) (by simp) (fun k hk => by
      simp only [List.mem_singleton] at hk
      subst hk
      have : k ∈ g.fp id := by rw [n2]; simp
      exact ⟨(r.sp id k this).1, .inl this⟩)
    (by rw [m3]; exact ⟨fun d e xs h => (by cases h), fun cs' h => (by cases h), fun k e xs h => (by cases h; exact ⟨_, rfl⟩)⟩) (fun _ e xs hc => by rw [m3] at hc; cases hc)
    (fun h' g' hz' xx => ⟨hp1, hp2, b, es', clk', n1, rfl, hs1, hent⟩)
  refine ⟨_, h, OpPost.skip run ⟨g', ?_, trivial⟩⟩
  rw [m1] at r' ⊢
  exact r'
end
end VM
