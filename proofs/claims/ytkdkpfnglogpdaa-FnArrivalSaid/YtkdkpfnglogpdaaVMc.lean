/- What it means that the evaluator's state describes the machine's, and how that is kept. -/
import Derived.Test.YtkdkpfnglogpdaaVMb
set_option linter.unusedVariables false
namespace VM
open Go

def All2 {α β : Type} (R : α → β → Prop) : List α → List β → Prop
  | [], [] => True
  | a :: l, b :: m => R a b ∧ All2 R l m
  | _, _ => False

theorem All2.mono {α β : Type} {R S : α → β → Prop} (h : ∀ a b, R a b → S a b) : ∀ {l : List α} {m : List β}, All2 R l m → All2 S l m
  | [], [], _ => trivial
  | a :: l, b :: m, ⟨h1, h2⟩ => ⟨h a b h1, All2.mono h h2⟩
  | [], _ :: _, h => h.elim
  | _ :: _, [], h => h.elim
theorem All2.length {α β : Type} {R : α → β → Prop} : ∀ {l : List α} {m : List β}, All2 R l m → l.length = m.length
  | [], [], _ => rfl
  | a :: l, b :: m, ⟨_, h2⟩ => by rw [List.length_cons, List.length_cons, All2.length h2]
  | [], _ :: _, h => h.elim
  | _ :: _, [], h => h.elim
theorem All2.append {α β : Type} {R : α → β → Prop} : ∀ {l l' : List α} {m m' : List β}, All2 R l m → All2 R l' m' → All2 R (l ++ l') (m ++ m')
  | [], _, [], _, _, h => h
  | a :: l, _, b :: m, _, ⟨h1, h2⟩, h => ⟨h1, All2.append h2 h⟩
  | [], _, _ :: _, _, h, _ => h.elim
  | _ :: _, _, [], _, h, _ => h.elim
theorem All2.take {α β : Type} {R : α → β → Prop} : ∀ (n : Nat) {l : List α} {m : List β}, All2 R l m → All2 R (l.take n) (m.take n)
  | 0, _, _, _ => trivial
  | n + 1, [], [], _ => trivial
  | n + 1, a :: l, b :: m, ⟨h1, h2⟩ => ⟨h1, All2.take n h2⟩
  | _ + 1, [], _ :: _, h => h.elim
  | _ + 1, _ :: _, [], h => h.elim
theorem All2.drop {α β : Type} {R : α → β → Prop} : ∀ (n : Nat) {l : List α} {m : List β}, All2 R l m → All2 R (l.drop n) (m.drop n)
  | 0, _, _, h => h
  | n + 1, [], [], _ => trivial
  | n + 1, a :: l, b :: m, ⟨h1, h2⟩ => All2.drop n h2
  | _ + 1, [], _ :: _, h => h.elim
  | _ + 1, _ :: _, [], h => h.elim
theorem All2.get {α β : Type} {R : α → β → Prop} : ∀ {l : List α} {m : List β}, All2 R l m → ∀ {i : Nat} {a : α}, l[i]? = some a → ∃ b, m[i]? = some b ∧ R a b
  | [], [], _, i, a, h => by simp at h
  | a :: l, b :: m, ⟨h1, h2⟩, 0, x, h => ⟨b, rfl, by simp at h; subst h; exact h1⟩
  | a :: l, b :: m, ⟨h1, h2⟩, i + 1, x, h => by
    obtain ⟨y, e, r⟩ := All2.get h2 (i := i) (a := x) (by simpa using h)
    exact ⟨y, by simpa using e, r⟩
  | [], _ :: _, h, _, _, _ => h.elim
  | _ :: _, [], h, _, _, _ => h.elim

def kindRow : CK → Path → Option CK
  | e, [] => some e
  | e, (_, off) :: p => match e.cell off with | some (.sl e1) => kindRow e1 p | _ => none

theorem kindRow_of_get : ∀ {p : Path} {e e' : CK} {xs : List e.den} {ys : List e'.den}, getRow e xs p = some ⟨e', ys⟩ → kindRow e p = some e'
  | [], e, e', xs, ys, h => by simp only [getRow, Option.some.injEq] at h; cases h; rfl
  | (i, off) :: p, e, e', xs, ys, h => by
    simp only [getRow] at h
    simp only [kindRow]
    split at h
    · rename_i e1 he
      rw [he]
      split at h
      · exact kindRow_of_get h
      · cases h
    · cases h

structure Gh where
  Z : Nat → Prop
  loc : Nat → Value
  fp : Nat → List Nat

def SubV (size : Nat) (v' : Value) (lo hi : Int) (v : Value) : Prop :=
  0 ≤ lo ∧ lo ≤ hi ∧ ∃ A len cap, v' = .slice A len cap ∧ hi ≤ (len : Int) ∧
    v = .slice (if cap = lo.toNat then A else A.map (·.add (lo.toNat * size))) (hi.toNat - lo.toNat) (cap - lo.toNat)

def RefOk (h : Nat → RE) (id inc ver : Nat) (v : Value) : Prop := inc ≤ (h id).inc ∧ (inc = (h id).inc → ver ≤ (h id).ver) ∧ v.oneCell' = true

/-- Is the reference still good? -/
def Vd (h : Nat → RE) (id inc ver : Nat) (p : Path) (d : Bool) : Prop := inc = (h id).inc ∧ (p = [] ∨ (ver = (h id).ver ∧ d = true))

def CVr (g : Gh) (w : World) (h : Nat → RE) : CV → Value → Prop
  | .undef, _ => True
  | .int k n, v => v = .int k n
  | .bool b, v => v = .bool b
  | .str s, v => v = strV s
  | .nil, v => v = .slice none 0 0
  | .sl e xs, v => Has g.Z w false (.sl e) xs [v] []
  | .rp c x, v => ∃ b off us, v = .pointer (some ⟨b, off, none⟩) ∧ g.Z b ∧ CellsAt w b off us ∧ Has g.Z w false c x us []
  | .fn f, v => v = .func (.func f) #[] #[]
  | .vptr id inc off, v => (inc ≤ (h id).inc ∧ v.oneCell' = true) ∧ (inc = (h id).inc → ∀ cs, (h id).c = .var cs → ∃ b, g.loc id = .pointer (some ⟨b, 0, none⟩) ∧ v = .pointer (some ⟨b, off, none⟩))
  | .map id inc, v => (inc ≤ (h id).inc ∧ v.oneCell' = true) ∧ (inc = (h id).inc → ∀ k e xs, (h id).c = .map k e xs → v = g.loc id)
  | .row id inc ver p, v => RefOk h id inc ver v ∧ ∀ d e, (h id).c.kd = some (d, e) → Vd h id inc ver p d → RowAt w e (g.loc id) p v
  | .rsub id inc ver p lo hi, v => RefOk h id inc ver v ∧ ∀ d e, (h id).c.kd = some (d, e) → Vd h id inc ver p d →
      ∃ v' e', kindRow e p = some e' ∧ RowAt w e (g.loc id) p v' ∧ SubV e'.size v' lo hi v
  | .ptr id inc ver p i off _, v => (RefOk h id inc ver v ∧ ∃ b oo, v = .pointer (some ⟨b, oo, none⟩)) ∧ ∀ d e, (h id).c.kd = some (d, e) → Vd h id inc ver p d →
      ∃ e' b o len cap, kindRow e p = some e' ∧ RowAt w e (g.loc id) p (.slice (some ⟨b, o, none⟩) len cap) ∧ 0 ≤ i ∧ i < (len : Int) ∧
        v = .pointer (some ⟨b, o + (i.toNat * e'.size + off), none⟩)

def SVr (g : Gh) (w : World) (h : Nat → RE) : SV → Value → Prop
  | .one v, u => CVr g w h v u
  | .agg vs, u => ∃ us, u = .agg us.toArray ∧ All2 (CVr g w h) vs us
  | .tup xs, u => ∃ us, u = .tuple us.toArray ∧ All2 (fun x u => if x.1 = true then ∃ us, u = .agg us.toArray ∧ All2 (CVr g w h) x.2 us else ∃ v, x.2 = [v] ∧ CVr g w h v u) xs us

/-- A cell's value. -/
def celV : (c : CK) → c.den → Value
  | .int k, n => .int k n
  | .bool, b => .bool b
  | .str, s => strV s
  | _, _ => undef
def EntR (k e : CK) (p : k.den × e.den) (m : MapEntry) : Prop := m.key = celV k p.1 ∧ m.val = celV e p.2

/-- A row of owned elements, of which one row (in element i at 'off') is elsewhere: what it is when another is put there. -/
def HoleR (Z : Nat → Prop) (w : World) (e : CK) (xs : List e.den) (i : Int) (off : Nat) (v : Value) (fp : List Nat) : Prop :=
  ∃ b o cap f1 f2, v = .slice (some ⟨b, o, none⟩) xs.length cap ∧ fp = b :: (f1 ++ f2) ∧ OwnB w b (o + cap * e.size) ∧ xs.length ≤ cap ∧ off + 1 ≤ e.size ∧ 0 ≤ i ∧ i < (xs.length : Int) ∧
    (∀ b' ∈ fp, b' < w.heap.size) ∧
    ∀ (e1 : CK) (L : Lens e (.sl e1)), e.lens off (.sl e1) = some L →
      ∀ (Z' : Nat → Prop) (w' : World) (y : List e1.den) (u : Value) (fm : List Nat), (∀ b, Z b → w'.heap[b]? = w.heap[b]?) → (∀ b, Z b → Z' b) →
        (∀ b', b' ∈ f1 ∨ b' ∈ f2 → w'.heap[b']? = w.heap[b']?) → (∀ n, OwnB w b n → OwnB w' b n) →
        (∀ j, j < o + (i.toNat * e.size + off) ∨ o + (i.toNat * e.size + off) + 1 ≤ j → w'.cell? ⟨b, j, none⟩ = w.cell? ⟨b, j, none⟩) →
        CellsAt w' b (o + (i.toNat * e.size + off)) [u] → Has Z' w' true (.sl e1) y [u] fm →
        Row Z' w' true e (wrL xs i (L.set (rdL xs i e.dflt) y)) v (b :: (f1 ++ (fm ++ f2)))
/-- A row some of whose elements are another row's: their cells are the cells that lie there, as long as that row does not turn. -/
def LoanR (g : Gh) (w : World) (h : Nat → RE) (e : CK) (as cs : List e.den) (id inc ver : Nat) (lo hi : Int) (v : Value) (fp : List Nat) : Prop :=
  (inc ≤ (h id).inc ∧ (inc = (h id).inc → ver ≤ (h id).ver)) ∧ 0 ≤ lo ∧ lo ≤ hi ∧
    ((v = .slice none 0 0 ∧ as = [] ∧ cs = [] ∧ lo = hi ∧ fp = []) ∨
     ∃ b o cap ua um uc fa fc, v = .slice (some ⟨b, o, none⟩) (as.length + (hi - lo).toNat + cs.length) cap ∧ as.length + (hi - lo).toNat + cs.length ≤ cap ∧ CellsAt w b o (ua ++ (um ++ uc)) ∧
       Cat (Has g.Z w true e) as ua fa ∧ Cat (Has g.Z w true e) cs uc fc ∧ fp = b :: (fa ++ fc) ∧ OwnB w b (o + cap * e.size) ∧ um.length = (hi - lo).toNat * e.size ∧
       (lo = hi ∨ (inc = (h id).inc → ver = (h id).ver → (h id).c.kd = some (true, e) → ∃ b0 o0 len0 cap0, g.loc id = .slice (some ⟨b0, o0, none⟩) len0 cap0 ∧ b0 ∈ g.fp id ∧ hi ≤ (len0 : Int) ∧ CellsAt w b0 (o0 + lo.toNat * e.size) um)))

def RR (g : Gh) (w : World) (h : Nat → RE) (r : RE) (v : Value) (fp : List Nat) : Prop :=
  match r.c with
  | .none => fp = []
  | .row d e xs => Row g.Z w d e xs v fp
  | .hole e xs i off => HoleR g.Z w e xs i off v fp
  | .loan e as cs id inc ver lo hi => LoanR g w h e as cs id inc ver lo hi v fp
  | .var cs => ∃ b us ty, v = .pointer (some ⟨b, 0, none⟩) ∧ fp = [b] ∧ w.heap[b]? = some (.cells us.toArray ty (0, 0)) ∧ All2 (CVr g w h) cs us
  | .map k e xs => k.pl = true ∧ e.pl = true ∧ ∃ b es clk, v = .map (some b) ∧ fp = [b] ∧ w.heap[b]? = some (.map es clk) ∧ All2 (EntR k e) xs es.toList

theorem kd_true {c : RC} {e : CK} (h : c.kd = some (true, e)) : ∃ xs, c = .row true e xs := by
  cases c with
  | row d e' xs => simp only [RC.kd, Option.some.injEq, Prod.mk.injEq] at h; obtain ⟨rfl, rfl⟩ := h; exact ⟨xs, rfl⟩
  | _ => simp [RC.kd] at h
def SameC (c c' : RC) : Prop :=
  (∀ d e, c'.kd = some (d, e) → ∃ d', c.kd = some (d', e)) ∧ (∀ cs, c' = .var cs → ∃ cs', c = .var cs') ∧ (∀ k e xs, c' = .map k e xs → ∃ ys, c = .map k e ys)
theorem SameC.refl (c : RC) : SameC c c := ⟨fun d e h => ⟨d, h⟩, fun cs h => ⟨cs, h⟩, fun k e xs h => ⟨xs, h⟩⟩

/-- Nothing that is still valid has turned. -/
structure Ext (g : Gh) (w : World) (h : Nat → RE) (g' : Gh) (w' : World) (h' : Nat → RE) : Prop where
  z : ∀ b, g.Z b → w'.heap[b]? = w.heap[b]?
  zz : ∀ b, g.Z b → g'.Z b
  id : ∀ id, (h id).inc < (h' id).inc ∨ ((h' id).inc = (h id).inc ∧ (h id).ver ≤ (h' id).ver ∧ g'.loc id = g.loc id ∧ SameC (h id).c (h' id).c ∧
    ((h' id).ver = (h id).ver → ∀ e, (h' id).c.kd = some (true, e) → (h id).c.kd = some (true, e) ∧ (g'.fp id = g.fp id ∧ ∀ b ∈ g.fp id, w'.heap[b]? = w.heap[b]?) ∧ ∀ p v, RowAt w e (g.loc id) p v → RowAt w' e (g.loc id) p v))

theorem Ext.ref {g w h g' w' h'} (x : Ext g w h g' w' h') {id inc ver : Nat} {v : Value} (hr : RefOk h id inc ver v) : RefOk h' id inc ver v := by
  obtain ⟨h1, h2, h3⟩ := hr
  rcases x.id id with hi | ⟨hi, hv, _⟩
  · exact ⟨by omega, fun e => by omega, h3⟩
  · exact ⟨by omega, fun e => by have := h2 (by omega); omega, h3⟩

theorem Ext.at {g w h g' w' h'} (x : Ext g w h g' w' h') {id inc ver : Nat} {v0 : Value} (hr : RefOk h id inc ver v0) {p : Path} {d : Bool} {e : CK} (hv : Vd h' id inc ver p d)
    (hc : (h' id).c.kd = some (d, e)) : ∃ d', Vd h id inc ver p d' ∧ (h id).c.kd = some (d', e) ∧ g'.loc id = g.loc id ∧ ∀ v, RowAt w e (g.loc id) p v → RowAt w' e (g.loc id) p v := by
  obtain ⟨h1, h2, _⟩ := hr
  obtain ⟨hi, hp⟩ := hv
  rcases x.id id with hlt | ⟨hie, hv, hl, hs, hat⟩
  · omega
  · have hinc : inc = (h id).inc := by omega
    have hver := h2 hinc
    rcases hp with hp | ⟨hp, hd⟩
    · subst hp
      obtain ⟨d', hd'⟩ := hs.1 d e hc
      exact ⟨d', ⟨hinc, .inl rfl⟩, hd', hl, fun v hrow => by simpa [RowAt] using hrow⟩
    · subst hd
      obtain ⟨k1, _, k2⟩ := hat (by omega) e hc
      exact ⟨true, ⟨hinc, .inr ⟨by omega, rfl⟩⟩, k1, hl, k2 p⟩

theorem CVr.ext {g w h g' w' h'} (x : Ext g w h g' w' h') : ∀ {v : CV} {u : Value}, CVr g w h v u → CVr g' w' h' v u := by
  intro v u hv
  cases v with
  | undef => trivial
  | int k n => exact hv
  | bool b => exact hv
  | str s => exact hv
  | nil => exact hv
  | fn f => exact hv
  | sl e xs => exact Has.frame (c := .sl e) x.z x.zz hv (by simp)
  | rp c y =>
    obtain ⟨b, off, us, h1, h2, h3, h4⟩ := hv
    exact ⟨b, off, us, h1, x.zz b h2, h3.frame (x.z b h2), Has.frame x.z x.zz h4 (by simp)⟩
  | vptr id inc off =>
    obtain ⟨⟨h1, h3⟩, h2⟩ := hv
    rcases x.id id with hlt | ⟨hie, _, hl, hs, _⟩
    · exact ⟨⟨by omega, h3⟩, fun e => by omega⟩
    · refine ⟨⟨by omega, h3⟩, fun e cs hc => ?_⟩
      obtain ⟨cs', hc'⟩ := hs.2.1 cs hc
      rw [hl]
      exact h2 (by omega) cs' hc'
  | map id inc =>
    obtain ⟨⟨h1, h3⟩, h2⟩ := hv
    rcases x.id id with hlt | ⟨hie, _, hl, hs, _⟩
    · exact ⟨⟨by omega, h3⟩, fun e => by omega⟩
    · refine ⟨⟨by omega, h3⟩, fun e' k e xs hc => ?_⟩
      obtain ⟨ys, hc'⟩ := hs.2.2 k e xs hc
      rw [hl]
      exact h2 (by omega) k e ys hc'
  | row id inc ver p =>
    obtain ⟨h1, h2⟩ := hv
    refine ⟨x.ref h1, fun d e hc hp => ?_⟩
    obtain ⟨d', k1, k3, k4, k5⟩ := x.at h1 hp hc
    rw [k4]
    exact k5 _ (h2 d' e k3 k1)
  | rsub id inc ver p lo hi =>
    obtain ⟨h1, h2⟩ := hv
    refine ⟨x.ref h1, fun d e hc hp => ?_⟩
    obtain ⟨d', k1, k3, k4, k5⟩ := x.at h1 hp hc
    obtain ⟨v', e', m1, m2, m3⟩ := h2 d' e k3 k1
    rw [k4]
    exact ⟨v', e', m1, k5 _ m2, m3⟩
  | ptr id inc ver p i off c =>
    obtain ⟨⟨h1, hp0⟩, h2⟩ := hv
    refine ⟨⟨x.ref h1, hp0⟩, fun d e hc hp => ?_⟩
    obtain ⟨d', k1, k3, k4, k5⟩ := x.at h1 hp hc
    obtain ⟨e', b, o, len, cap, m1, m2, m3⟩ := h2 d' e k3 k1
    rw [k4]
    exact ⟨e', b, o, len, cap, m1, k5 _ m2, m3⟩

theorem SVr.ext {g w h g' w' h'} (x : Ext g w h g' w' h') {v : SV} {u : Value} (hv : SVr g w h v u) : SVr g' w' h' v u := by
  cases v with
  | one v => exact CVr.ext x hv
  | agg vs => obtain ⟨us, h1, h2⟩ := hv; exact ⟨us, h1, h2.mono fun _ _ => CVr.ext x⟩
  | tup xs =>
    obtain ⟨us, h1, h2⟩ := hv
    refine ⟨us, h1, h2.mono fun y u hy => ?_⟩
    split at hy
    · rename_i h
      obtain ⟨us, k1, k2⟩ := hy
      rw [if_pos h]
      exact ⟨us, k1, k2.mono fun _ _ => CVr.ext x⟩
    · rename_i h
      obtain ⟨v, k1, k2⟩ := hy
      rw [if_neg h]
      exact ⟨v, k1, CVr.ext x k2⟩

theorem heap_size_of {w w' : World} {b : Nat} (h : w'.heap[b]? = w.heap[b]?) (hb : b < w.heap.size) : b < w'.heap.size := by
  rw [Array.getElem?_eq_getElem hb] at h
  exact (Array.getElem?_eq_some_iff.1 h).1
theorem HoleR.frame {Z Z' : Nat → Prop} {w w' : World} (hZ : ∀ b, Z b → w'.heap[b]? = w.heap[b]?) (hZZ : ∀ b, Z b → Z' b) {e : CK} {xs : List e.den} {i : Int} {off : Nat} {v : Value} {fp : List Nat}
    (hf : ∀ b ∈ fp, w'.heap[b]? = w.heap[b]?) (h : HoleR Z w e xs i off v fp) : HoleR Z' w' e xs i off v fp := by
  obtain ⟨b, o, cap, f1, f2, h1, h2, h3, h4, h5, h6, h7, hlt, h8⟩ := h
  have hb : w'.heap[b]? = w.heap[b]? := hf b (by rw [h2]; simp)
  refine ⟨b, o, cap, f1, f2, h1, h2, h3.frame hb, h4, h5, h6, h7, fun b' hb' => heap_size_of (hf b' hb') (hlt b' hb'), fun e1 L hL Zn wn y u fm hZn hZZn hfn hOn hout hin hy => ?_⟩
  refine h8 e1 L hL Zn wn y u fm (fun k hk => (hZn k (hZZ k hk)).trans (hZ k hk)) (fun k hk => hZZn k (hZZ k hk)) (fun k hk => (hfn k hk).trans (hf k (by rw [h2]; simp only [List.mem_cons, List.mem_append]; exact .inr hk)))
    (fun n hn => hOn n (hn.frame hb)) (fun j hj => (hout j hj).trans (World.cell?_of_block (w := w) (w' := w') (a := ⟨b, j, none⟩) hb)) hin hy
theorem Cat.frameZ {Z Z' : Nat → Prop} {w w' : World} {e : CK} {d : Bool} (hZ : ∀ b, Z b → w'.heap[b]? = w.heap[b]?) (hZZ : ∀ b, Z b → Z' b) {xs : List e.den} {us : List Value} {fp : List Nat}
    (hf : ∀ b ∈ fp, w'.heap[b]? = w.heap[b]?) (h : Cat (Has Z w d e) xs us fp) : Cat (Has Z' w' d e) xs us fp :=
  h.mono xs (fun x _ u f hf' hx => hx.frame hZ hZZ (fun b hb => hf b (hf' b hb)))
theorem LoanR.ext {g w h g' w' h'} (x : Ext g w h g' w' h') {e : CK} {as cs : List e.den} {id inc ver : Nat} {lo hi : Int} {v : Value} {fp : List Nat} (hf : ∀ b ∈ fp, w'.heap[b]? = w.heap[b]?)
    (hr : LoanR g w h e as cs id inc ver lo hi v fp) : LoanR g' w' h' e as cs id inc ver lo hi v fp := by
  obtain ⟨⟨h1, h2⟩, h3, h4, hr⟩ := hr
  refine ⟨?_, h3, h4, ?_⟩
  · rcases x.id id with hi | ⟨hi, hv, _⟩
    · exact ⟨by omega, fun e => by omega⟩
    · exact ⟨by omega, fun e => by have := h2 (by omega); omega⟩
  rcases hr with hr | ⟨b, o, cap, ua, um, uc, fa, fc, k1, k2, k3, k4, k5, rfl, k7, k8, k9⟩
  · exact .inl hr
  · have hb : w'.heap[b]? = w.heap[b]? := hf b (by simp)
    refine .inr ⟨b, o, cap, ua, um, uc, fa, fc, k1, k2, k3.frame hb, k4.frameZ x.z x.zz (fun k hk => hf k (by simp [hk])), k5.frameZ x.z x.zz (fun k hk => hf k (by simp [hk])), rfl, k7.frame hb, k8, ?_⟩
    rcases k9 with k9 | k9
    · exact .inl k9
    · right
      intro e1 e2 e3
      rcases x.id id with hlt | ⟨hie, hv, hl, hs, hat⟩
      · omega
      · have hver := h2 (by omega)
        obtain ⟨m1, ⟨m2, m3⟩, _⟩ := hat (by omega) e e3
        obtain ⟨b0, o0, len0, cap0, n1, n2, n3, n4⟩ := k9 (by omega) (by omega) m1
        exact ⟨b0, o0, len0, cap0, by rw [hl]; exact n1, by rw [m2]; exact n2, n3, n4.frame (m3 b0 n2)⟩

theorem RR.ext {g w h g' w' h'} (x : Ext g w h g' w' h') {r : RE} {v : Value} {fp : List Nat} (hf : ∀ b ∈ fp, w'.heap[b]? = w.heap[b]?) (hr : RR g w h r v fp) : RR g' w' h' r v fp := by
  unfold RR at hr ⊢
  split at hr
  · exact hr
  · exact hr.frame hf (fun y u f hsub hy => Has.frame x.z x.zz hy (fun b hb => hf b (hsub b hb)))
  · exact HoleR.frame x.z x.zz hf hr
  · exact LoanR.ext x hf hr
  · obtain ⟨b, us, ty, h1, h2, h3, h4⟩ := hr
    exact ⟨b, us, ty, h1, h2, by rw [hf b (by simp [h2])]; exact h3, h4.mono fun _ _ => CVr.ext x⟩
  · obtain ⟨hk, he, b, es, clk, h1, h2, h3, h4⟩ := hr
    exact ⟨hk, he, b, es, clk, h1, h2, by rw [hf b (by simp [h2])]; exact h3, h4⟩

theorem RR.lt {g w h} {r : RE} {v : Value} {fp : List Nat} (hr : RR g w h r v fp) : ∀ b ∈ fp, b < w.heap.size := by
  unfold RR at hr
  split at hr
  · simp [hr]
  · exact RowOwn.lt (fun x u f hx => Has.lt hx) hr
  · obtain ⟨b, o, cap, f1, f2, h1, h2, h3, h4, h5, h6, h7, hlt, h8⟩ := hr
    exact hlt
  · obtain ⟨_, _, _, h⟩ := hr
    rcases h with ⟨_, _, _, _, h⟩ | ⟨b, o, cap, ua, um, uc, fa, fc, k1, k2, k3, k4, k5, rfl, k7, k8, k9⟩
    · simp [h]
    · intro b' hb
      rw [List.mem_cons, List.mem_append] at hb
      rcases hb with rfl | hb | hb
      · exact k7.lt
      · exact Cat.fp_mem (fun x u f hx b hb => Has.lt hx b hb) k4 b' hb
      · exact Cat.fp_mem (fun x u f hx b hb => Has.lt hx b hb) k5 b' hb
  · obtain ⟨b, us, ty, h1, h2, h3, h4⟩ := hr
    intro b' hb
    rw [h2, List.mem_singleton] at hb
    subst hb
    exact (Array.getElem?_eq_some_iff.1 h3).1
  · obtain ⟨_, _, b, es, clk, h1, h2, h3, h4⟩ := hr
    intro b' hb
    rw [h2, List.mem_singleton] at hb
    subst hb
    exact (Array.getElem?_eq_some_iff.1 h3).1

/-- What does not turn from function entry to exit. -/
structure Fx where
  U : Nat → Prop              -- the blocks that may be written
  P0 : List (Nat × Value)     -- where the written parameters lie
  w0 : World
  Z0 : Nat → Prop
  B : St
  N : Nat

/-- What a slot that is never written holds. -/
def BVr (F : Fx) (g : Gh) (w : World) : CV → Value → Prop
  | .undef, _ => True
  | .int k n, v => v = .int k n
  | .bool b, v => v = .bool b
  | .str s, v => v = strV s
  | .sl e xs, v => Has g.Z w false (.sl e) xs [v] []
  | .fn f, v => v = .func (.func f) #[] #[]
  | .vptr id 1 0, v => (id, v) ∈ F.P0 ∧ ∃ b, v = .pointer (some ⟨b, 0, none⟩)
  | .row id 1 0 [], v => (id, v) ∈ F.P0 ∧ v.oneCell' = true
  | _, _ => False
def BSr (F : Fx) (g : Gh) (w : World) : SV → Value → Prop
  | .one v, u => BVr F g w v u
  | .agg vs, u => ∃ us, u = .agg us.toArray ∧ All2 (BVr F g w) vs us
  | .tup _, _ => False

theorem BVr.frame {F : Fx} {g g' : Gh} {w w' : World} (z : ∀ b, g.Z b → w'.heap[b]? = w.heap[b]?) (zz : ∀ b, g.Z b → g'.Z b) : ∀ {v : CV} {u : Value}, BVr F g w v u → BVr F g' w' v u := by
  intro v u h
  unfold BVr at *
  split at h
  · trivial
  · exact h
  · exact h
  · exact h
  · exact Has.frame (c := .sl _) z zz h (by simp)
  · exact h
  · exact h
  · exact h
  · exact h.elim
theorem BSr.frame {F : Fx} {g g' : Gh} {w w' : World} (z : ∀ b, g.Z b → w'.heap[b]? = w.heap[b]?) (zz : ∀ b, g.Z b → g'.Z b) {v : SV} {u : Value} (h : BSr F g w v u) : BSr F g' w' v u := by
  cases v with
  | one v => exact BVr.frame z zz h
  | agg vs => obtain ⟨us, h1, h2⟩ := h; exact ⟨us, h1, h2.mono fun _ _ => BVr.frame z zz⟩
  | tup xs => exact h

structure Rl (F : Fx) (σ : St) (a : Act) (w : World) (g : Gh) : Prop where
  sl : ∀ i, SVr g w σ.h (σ.s i) (a.tmps.getD i undef)
  bs : ∀ i, BSr F g w (F.B.s i) (a.tmps.getD i undef)
  rt : ∀ id, RR g w σ.h (σ.h id) (g.loc id) (g.fp id)
  nd : ∀ id, (g.fp id).Nodup
  dj : ∀ id id' b, b ∈ g.fp id → b ∈ g.fp id' → id = id'
  sp : ∀ id b, b ∈ g.fp id → ¬ g.Z b ∧ F.U b
  zl : ∀ b, g.Z b → b < w.heap.size
  z0 : ∀ b, F.Z0 b → g.Z b
  zu : ∀ b, g.Z b → F.Z0 b ∨ F.U b
  uf : ∀ b, F.w0.heap.size ≤ b → F.U b
  os : w.os = F.w0.os
  tp : w.tape = F.w0.tape
  ou : w.output = F.w0.output
  sz : F.w0.heap.size ≤ w.heap.size
  fr : ∀ b, b < F.w0.heap.size → ¬ F.U b → w.heap[b]? = F.w0.heap[b]?
  pl : ∀ p ∈ F.P0, (σ.h p.1).inc = 1 → g.loc p.1 = p.2
  p1 : ∀ p ∈ F.P0, 1 ≤ (σ.h p.1).inc
  df : a.defers = []
  ts : a.tmps.size = F.N

/-- From state to state, the slots as they are. -/
theorem Rl.step {F : Fx} {σ : St} {a : Act} {w : World} {g : Gh} (r : Rl F σ a w g) {h' : Nat → RE} {w' : World} {g' : Gh} (x : Ext g w σ.h g' w' h')
    (rt : ∀ id, RR g' w' h' (h' id) (g'.loc id) (g'.fp id)) (nd : ∀ id, (g'.fp id).Nodup) (dj : ∀ id id' b, b ∈ g'.fp id → b ∈ g'.fp id' → id = id')
    (sp : ∀ id b, b ∈ g'.fp id → ¬ g'.Z b ∧ F.U b) (zl : ∀ b, g'.Z b → b < w'.heap.size) (zu : ∀ b, g'.Z b → g.Z b ∨ F.U b)
    (os : w'.os = w.os) (tp : w'.tape = w.tape) (ou : w'.output = w.output) (sz : w.heap.size ≤ w'.heap.size)
    (fr : ∀ b, b < w.heap.size → ¬ F.U b → w'.heap[b]? = w.heap[b]?) (pl : ∀ p ∈ F.P0, (h' p.1).inc = 1 → (σ.h p.1).inc = 1 ∧ g'.loc p.1 = g.loc p.1) : Rl F ⟨σ.s, h'⟩ a w' g' where
  sl := fun i => (r.sl i).ext x
  bs := fun i => (r.bs i).frame x.z x.zz
  rt := rt
  nd := nd
  dj := dj
  sp := sp
  zl := zl
  z0 := fun b hb => x.zz b (r.z0 b hb)
  zu := fun b hb => (zu b hb).elim (r.zu b) .inr
  uf := r.uf
  os := os.trans r.os
  tp := tp.trans r.tp
  ou := ou.trans r.ou
  sz := Nat.le_trans r.sz sz
  fr := fun b hb hu => (fr b (Nat.lt_of_lt_of_le hb r.sz) hu).trans (r.fr b hb hu)
  pl := fun p hp hi => by
    obtain ⟨h1, h2⟩ := pl p hp hi
    rw [h2]
    exact r.pl p hp h1
  p1 := fun p hp => by
    have := r.p1 p hp
    show 1 ≤ (h' p.1).inc
    rcases x.id p.1 with hlt | ⟨h, _⟩ <;> omega
  df := r.df
  ts := r.ts

theorem Rl.put {F : Fx} {σ : St} {a : Act} {w : World} {g : Gh} (r : Rl F σ a w g) {d : Option Nat} {v : SV} {u : Value} (hd : okDst F.B F.N d = true) (hv : SVr g w σ.h v u) : Rl F (σ.put d v) (a.put d u) w g := by
  cases d with
  | none => exact r
  | some d =>
    have hB : F.B.s d = .one .undef ∧ d < F.N := by
      unfold okDst at hd
      simp only at hd
      split at hd
      · rename_i h; exact ⟨h, by simpa using hd⟩
      · cases hd
    have hlt : d < a.tmps.size := by rw [r.ts]; exact hB.2
    refine { r with sl := ?_, bs := ?_, ts := ?_ }
    · intro i
      show SVr g w σ.h (bif Nat.beq i d then v else σ.s i) _
      by_cases hi : i = d
      · subst hi
        simp only [Nat.beq_refl, cond_true, Act.put]
        rwa [show (a.tmps.setIfInBounds i u).getD i undef = u by simp [hlt]]
      · have : Nat.beq i d = false := by cases h : Nat.beq i d with | false => rfl | true => exact absurd (Nat.eq_of_beq_eq_true h) hi
        rw [this]
        have hne : d ≠ i := fun e => hi e.symm
        simpa [Act.put, Array.getElem?_setIfInBounds_ne hne] using r.sl i
    · intro i
      by_cases hi : i = d
      · subst hi
        rw [hB.1]
        trivial
      · have hne : d ≠ i := fun e => hi e.symm
        have := r.bs i
        show BSr F g w (F.B.s i) _
        simpa [Act.put, Array.getElem?_setIfInBounds_ne hne] using this
    · simp [Act.put, r.ts]

theorem Ext.refl (g : Gh) (w : World) (h : Nat → RE) : Ext g w h g w h :=
  ⟨fun _ _ => rfl, fun _ h => h, fun id => .inr ⟨rfl, Nat.le_refl _, rfl, SameC.refl _, fun _ _ hc => ⟨hc, ⟨rfl, fun _ _ => rfl⟩, fun _ _ h => h⟩⟩⟩
end VM
