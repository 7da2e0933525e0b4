/- A function's contract out of the checked print of its code. -/
import Derived.Test.YtljofbhokcdklaaVOa
set_option linter.unusedVariables false
namespace VM
open Go
variable {P : Program} {tt : List (Nat × TD)} {env : List Ct}
theorem eN : EnvOk P [] := fun c h => by cases h
theorem eC {c : Ct} {l : List Ct} (h : SoundC P c) (t : EnvOk P l) : EnvOk P (c :: l) := fun d hd => by
  rcases List.mem_cons.1 hd with rfl | hd
  · exact h
  · exact t d hd
theorem callK {f : FuncId} {fn : Func} (hf : P.funcs[f]? = some fn) (hname : (fn.name == "runtime.NumGoroutine") = false) (hb : fn.body.isSome = true) (args : Array Value) (w : World) : (callFunc f args).run P w = .ok (.enter f args) w := by
  cases hbody : fn.body with
  | none => rw [hbody] at hb; cases hb
  | some c =>
    have h1 : fn.name ≠ "runtime.NumGoroutine" := by simpa using hname
    simp [callFunc, hf, h1, hbody]
theorem sndK {c : Ct} {fn : Func} {cs : List Nat} {h : HT} (htt : TTok P tt) (henv : EnvOk P env) (hf : P.funcs[c.f]? = some fn) (hname : (fn.name == "runtime.NumGoroutine") = false) (hb : fn.body.isSome = true)
    (hmo : P.follows .mixedOrders = true) (hk : ∀ (k : Nat) (x : c.g.In), evFn tt env k fn cs h c.g x = c.run k x) : SoundC P c := by
  cases hbody : fn.body with
  | none => rw [hbody] at hb; cases hb
  | some code => exact evFn_sound hf hname hbody htt henv hmo (cs := cs) (h := h) (fun k x y hy => by rw [hk]; exact hy)
end VM
