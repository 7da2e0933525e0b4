/- The contracts of all functions that the law reaches. -/
import Derived.Test.YtljofbhokcdklaaVG3
import Derived.Test.YtljofbhokcdklaaKVa2
import Derived.Test.YtljofbhokcdklaaProg
set_option linter.unusedVariables false
open Go Go.Proofs Go.Shelf VM
set_option maxRecDepth 100000
abbrev c0 : CK := .pair (.sl (.int .u8)) (.pair (.int .i64) (.pair (.int .i64) .unit))
abbrev c1 : CK := .pair (.int .i64) (.pair (.int .i64) (.pair (.int .i64) .unit))
abbrev c2 : CK := .pair (.int .i64) (.pair (.int .i64) (.pair (.int .i64) (.pair .str c1)))
abbrev c3 : CK := .pair .str (.pair (.int .i64) .unit)
abbrev c4 : CK := .pair (.int .i64) (.pair (.int .i64) (.pair (.sl c3) .unit))
abbrev c5 : CK := .pair .str (.pair (.sl (.int .i64)) (.pair (.sl c1) .unit))
abbrev c6 : CK := .pair (.sl c5) (.pair (.int .i64) (.pair (.sl c4) .unit))
def tt : List (Nat × TD) := [(3, .val (.int .i64) 8 []), (5, .val (.int .u8) 1 []), (9, .val .str 16 []), (26, .val (.sl c3) 24 []), (40, .val (.sl (.int .u8)) 1 []), (42, .val (.sl c4) 40 []), (54, .val c3 24 [(0, .str), (1, (.int .i64))]), (55, .val (.sl c2) 64 []), (60, .val c2 64 [(0, (.int .i64)), (1, (.int .i64)), (2, (.int .i64)), (3, .str), (4, (.int .i64)), (5, (.int .i64)), (6, (.int .i64))]), (61, .val (.sl c5) 64 []), (63, .val c6 56 [(0, (.sl c5)), (1, (.int .i64)), (2, (.sl c4))]), (64, .val (.sl (.int .i64)) 8 []), (91, .other), (100, .val c4 40 [(0, (.int .i64)), (1, (.int .i64)), (2, (.sl c3))]), (110, .val (.sl c1) 24 []), (112, .val c5 64 [(0, .str), (1, (.sl (.int .i64))), (2, (.sl c1))]), (115, .val c1 24 [(0, (.int .i64)), (1, (.int .i64)), (2, (.int .i64))]), (126, .val c0 40 [(0, (.sl (.int .u8))), (1, (.int .i64)), (2, (.int .i64))]), (132, .val (.sl .str) 16 []), (137, .other), (138, .map (.int .i64) .bool), (142, .other), (152, .val (.int .u64) 8 [])]
theorem ttOk : TTok Try.prog tt := ttB_ok (by kernel_rfl)
def g21 : Sg := ⟨[(.imm, (.sl (.int .u8)))], [(.imm, .bool)]⟩
noncomputable def C21 : Ct := ⟨21, g21, fun k x => VF.laws_big k x.1⟩
def h21 : HT := .leaf
noncomputable def e21 : List Ct := []
theorem k21 (k : Nat) (x : g21.In) : evFn tt e21 k Try.f21 [0] h21 g21 x = C21.run k x := by kernel_rfl
theorem S21 : SoundC Try.prog C21 := sndK (fn := Try.f21) ttOk eN (by kernel_rfl) (by kernel_rfl) (by kernel_rfl) (by kernel_rfl) k21
def g54 : Sg := ⟨[(.imm, (.sl (.int .u8)))], [(.pts, c0)]⟩
noncomputable def C54 : Ct := ⟨54, g54, fun k x => VF.spec_l1New k x.1⟩
def h54 : HT := (.n .leaf (.n .leaf (.j [(3, .one (.int .i64))] (.n .leaf (.l [(3, .one (.int .i64)), (4, .one (.int .i64))] .leaf)) .leaf)))
noncomputable def e54 : List Ct := []
theorem k54 (k : Nat) (x : g54.In) : evFn tt e54 k Try.f54 [0] h54 g54 x = C54.run k x := by kernel_rfl
theorem S54 : SoundC Try.prog C54 := sndK (fn := Try.f54) ttOk eN (by kernel_rfl) (by kernel_rfl) (by kernel_rfl) (by kernel_rfl) k54
def g96 : Sg := ⟨[(.pts, c0)], [(.imm, (.int .i64))]⟩
noncomputable def C96 : Ct := ⟨96, g96, fun k x => VF.spec_l1Byte k x.1⟩
def h96 : HT := .leaf
noncomputable def e96 : List Ct := []
theorem k96 (k : Nat) (x : g96.In) : evFn tt e96 k Try.f96 [0] h96 g96 x = C96.run k x := by kernel_rfl
theorem S96 : SoundC Try.prog C96 := sndK (fn := Try.f96) ttOk eN (by kernel_rfl) (by kernel_rfl) (by kernel_rfl) (by kernel_rfl) k96
def g67 : Sg := ⟨[(.pts, c0), (.imm, (.int .i64))], [(.imm, (.int .i64))]⟩
noncomputable def C67 : Ct := ⟨67, g67, fun k x => VF.spec_l1Below k x.1 x.2.1⟩
def h67 : HT := .leaf
noncomputable def e67 : List Ct := [C96]
theorem k67 (k : Nat) (x : g67.In) : evFn tt e67 k Try.f67 [0, 1] h67 g67 x = C67.run k x := by kernel_rfl
theorem S67 : SoundC Try.prog C67 := sndK (fn := Try.f67) ttOk (eC S96 eN) (by kernel_rfl) (by kernel_rfl) (by kernel_rfl) (by kernel_rfl) k67
def g87 : Sg := ⟨[(.pts, c0), (.imm, (.int .i64))], [(.imm, .bool)]⟩
noncomputable def C87 : Ct := ⟨87, g87, fun k x => VF.spec_l1Once k x.1 x.2.1⟩
def h87 : HT := .leaf
noncomputable def e87 : List Ct := [C67]
theorem k87 (k : Nat) (x : g87.In) : evFn tt e87 k Try.f87 [0, 1] h87 g87 x = C87.run k x := by kernel_rfl
theorem S87 : SoundC Try.prog C87 := sndK (fn := Try.f87) ttOk (eC S67 eN) (by kernel_rfl) (by kernel_rfl) (by kernel_rfl) (by kernel_rfl) k87
def g89 : Sg := ⟨[(.pts, c0), (.own, (.sl (.int .i64)))], [(.imm, (.int .i64))]⟩
noncomputable def C89 : Ct := ⟨89, g89, fun k x => VF.spec_l1PickInt k x.1 x.2.1⟩
def h89 : HT := .leaf
noncomputable def e89 : List Ct := [C67]
theorem k89 (k : Nat) (x : g89.In) : evFn tt e89 k Try.f89 [0] h89 g89 x = C89.run k x := by kernel_rfl
theorem S89 : SoundC Try.prog C89 := sndK (fn := Try.f89) ttOk (eC S67 eN) (by kernel_rfl) (by kernel_rfl) (by kernel_rfl) (by kernel_rfl) k89
def g56 : Sg := ⟨[(.pts, c0)], [(.imm, (.int .i64))]⟩
noncomputable def C56 : Ct := ⟨56, g56, fun k x => VF.spec_l4Day k x.1⟩
def h56 : HT := .leaf
noncomputable def e56 : List Ct := [C67, C87, C89]
theorem k56 (k : Nat) (x : g56.In) : evFn tt e56 k Try.f56 [0] h56 g56 x = C56.run k x := by kernel_rfl
theorem S56 : SoundC Try.prog C56 := sndK (fn := Try.f56) ttOk (eC S67 (eC S87 (eC S89 eN))) (by kernel_rfl) (by kernel_rfl) (by kernel_rfl) (by kernel_rfl) k56
def g94 : Sg := ⟨[(.pts, c0)], [(.imm, (.int .i64))]⟩
noncomputable def C94 : Ct := ⟨94, g94, fun k x => VF.spec_l1Odd k x.1⟩
def h94 : HT := .leaf
noncomputable def e94 : List Ct := [C89]
theorem k94 (k : Nat) (x : g94.In) : evFn tt e94 k Try.f94 [0] h94 g94 x = C94.run k x := by kernel_rfl
theorem S94 : SoundC Try.prog C94 := sndK (fn := Try.f94) ttOk (eC S89 eN) (by kernel_rfl) (by kernel_rfl) (by kernel_rfl) (by kernel_rfl) k94
def g119 : Sg := ⟨[(.pts, c0), (.own, (.sl .str))], [(.imm, .str)]⟩
noncomputable def C119 : Ct := ⟨119, g119, fun k x => VF.spec_l1Pick k x.1 x.2.1⟩
def h119 : HT := .leaf
noncomputable def e119 : List Ct := [C67]
theorem k119 (k : Nat) (x : g119.In) : evFn tt e119 k Try.f119 [0] h119 g119 x = C119.run k x := by kernel_rfl
theorem S119 : SoundC Try.prog C119 := sndK (fn := Try.f119) ttOk (eC S67 eN) (by kernel_rfl) (by kernel_rfl) (by kernel_rfl) (by kernel_rfl) k119
def g118 : Sg := ⟨[(.pts, c0), (.imm, (.int .i64))], [(.imm, c2)]⟩
noncomputable def C118 : Ct := ⟨118, g118, fun k x => VF.spec_l36Event k x.1 x.2.1⟩
def h118 : HT := (.n .leaf (.n .leaf (.j [(0, .pp [.sl (.int .u8), .int .i64, .int .i64]), (4, .var [.int .i64, .int .i64, .int .i64, .str, .int .i64, .int .i64, .int .i64]), (5, .var [.int .i64, .int .i64, .int .i64, .str, .int .i64, .int .i64, .int .i64])] .leaf .leaf)))
noncomputable def e118 : List Ct := [C56, C67, C89, C94, C119]
theorem k118 (k : Nat) (x : g118.In) : evFn tt e118 k Try.f118 [0, 1] h118 g118 x = C118.run k x := by kernel_rfl
theorem S118 : SoundC Try.prog C118 := sndK (fn := Try.f118) ttOk (eC S56 (eC S67 (eC S89 (eC S94 (eC S119 eN))))) (by kernel_rfl) (by kernel_rfl) (by kernel_rfl) (by kernel_rfl) k118
def g95 : Sg := ⟨[(.pts, c0)], [(.own true, (.sl c2))]⟩
noncomputable def C95 : Ct := ⟨95, g95, fun k x => VF.spec_l36Events k x.1⟩
def h95 : HT := (.n .leaf (.n .leaf (.j [(0, .pp [.sl (.int .u8), .int .i64, .int .i64]), (3, .one (.row true c2))] (.n .leaf (.l [(0, .pp [.sl (.int .u8), .int .i64, .int .i64]), (3, .one (.row true c2)), (4, .one (.int .i64))] (.n .leaf (.n (.n .leaf (.n (.j [(0, .pp [.sl (.int .u8), .int .i64, .int .i64]), (3, .one (.row true c2)), (4, .one (.int .i64)), (5, .var [.int .i64, .int .i64, .int .i64, .str, .int .i64, .int .i64, .int .i64]), (25, .one (.bool))] .leaf .leaf) .leaf)) .leaf)))) .leaf)))
noncomputable def e95 : List Ct := [C67, C87, C118, C119]
theorem k95 (k : Nat) (x : g95.In) : evFn tt e95 k Try.f95 [0] h95 g95 x = C95.run k x := by kernel_rfl
theorem S95 : SoundC Try.prog C95 := sndK (fn := Try.f95) ttOk (eC S67 (eC S87 (eC S118 (eC S119 eN)))) (by kernel_rfl) (by kernel_rfl) (by kernel_rfl) (by kernel_rfl) k95
def g66 : Sg := ⟨[(.pts, c0)], [(.own true, (.sl c2))]⟩
noncomputable def C66 : Ct := ⟨66, g66, fun k x => VF.spec_l37Events k x.1⟩
def h66 : HT := (.n .leaf (.n .leaf (.n .leaf (.j [(0, .pp [.sl (.int .u8), .int .i64, .int .i64]), (4, .one (.row true c2))] (.n .leaf (.l [(0, .pp [.sl (.int .u8), .int .i64, .int .i64]), (3, .one (.row true c2)), (4, .one (.row true c2)), (5, .one (.int .i64))] (.n .leaf (.n (.n .leaf (.n .leaf (.j [(0, .pp [.sl (.int .u8), .int .i64, .int .i64]), (3, .one (.row true c2)), (4, .one (.row true c2)), (5, .one (.int .i64))] .leaf .leaf))) .leaf)))) .leaf))))
noncomputable def e66 : List Ct := [C67, C87, C95]
theorem k66 (k : Nat) (x : g66.In) : evFn tt e66 k Try.f66 [0] h66 g66 x = C66.run k x := by kernel_rfl
theorem S66 : SoundC Try.prog C66 := sndK (fn := Try.f66) ttOk (eC S67 (eC S87 (eC S95 eN))) (by kernel_rfl) (by kernel_rfl) (by kernel_rfl) (by kernel_rfl) k66
def g29 : Sg := ⟨[(.imm, (.sl (.int .u8)))], [(.own true, (.sl c2)), (.imm, (.int .i64))]⟩
noncomputable def C29 : Ct := ⟨29, g29, fun k x => VF.spec_DrawDropEvent k x.1⟩
def h29 : HT := .leaf
noncomputable def e29 : List Ct := [C54, C66, C67]
theorem k29 (k : Nat) (x : g29.In) : evFn tt e29 k Try.f29 [0] h29 g29 x = C29.run k x := by kernel_rfl
theorem S29 : SoundC Try.prog C29 := sndK (fn := Try.f29) ttOk (eC S54 (eC S66 (eC S67 eN))) (by kernel_rfl) (by kernel_rfl) (by kernel_rfl) (by kernel_rfl) k29
def g30 : Sg := ⟨[(.imm, (.sl c2)), (.imm, (.int .i64))], [(.own true, (.sl c2))]⟩
noncomputable def C30 : Ct := ⟨30, g30, fun k x => VF.impl_DropEvent k x.1 x.2.1⟩
def h30 : HT := (.n .leaf (.n .leaf (.j [(5, .one (.row true c2))] (.n .leaf (.l [(5, .one (.row true c2)), (9, .one (.sl c2)), (10, .one (.int .i64)), (11, .one (.int .i64))] .leaf)) .leaf)))
noncomputable def e30 : List Ct := []
theorem k30 (k : Nat) (x : g30.In) : evFn tt e30 k Try.f30 [0, 1] h30 g30 x = C30.run k x := by kernel_rfl
theorem S30 : SoundC Try.prog C30 := sndK (fn := Try.f30) ttOk eN (by kernel_rfl) (by kernel_rfl) (by kernel_rfl) (by kernel_rfl) k30
def g58 : Sg := ⟨[(.imm, .str)], [(.imm, .bool)]⟩
noncomputable def C58 : Ct := ⟨58, g58, fun k x => VF.impl_IsCode k x.1⟩
def h58 : HT := (.n .leaf (.j [] (.n .leaf (.l [(3, .one (.int .i64))] (.n .leaf (.j [(3, .one (.int .i64))] (.j [(3, .one (.int .i64)), (4, .one (.bool))] .leaf .leaf) .leaf)))) .leaf))
noncomputable def e58 : List Ct := []
theorem k58 (k : Nat) (x : g58.In) : evFn tt e58 k Try.f58 [0] h58 g58 x = C58.run k x := by kernel_rfl
theorem S58 : SoundC Try.prog C58 := sndK (fn := Try.f58) ttOk eN (by kernel_rfl) (by kernel_rfl) (by kernel_rfl) (by kernel_rfl) k58
def g59 : Sg := ⟨[(.imm, (.int .i64)), (.imm, (.int .i64)), (.imm, (.int .i64))], [(.imm, .bool)]⟩
noncomputable def C59 : Ct := ⟨59, g59, fun k x => VF.impl_in k x.1 x.2.1 x.2.2.1⟩
def h59 : HT := .leaf
noncomputable def e59 : List Ct := []
theorem k59 (k : Nat) (x : g59.In) : evFn tt e59 k Try.f59 [0, 1, 2] h59 g59 x = C59.run k x := by kernel_rfl
theorem S59 : SoundC Try.prog C59 := sndK (fn := Try.f59) ttOk eN (by kernel_rfl) (by kernel_rfl) (by kernel_rfl) (by kernel_rfl) k59
def g97 : Sg := ⟨[(.imm, c2)], [(.imm, .bool)]⟩
noncomputable def C97 : Ct := ⟨97, g97, fun k x => VF.impl_IsEvent k x.1⟩
def h97 : HT := (.n .leaf (.j [(1, .var [.int .i64, .int .i64, .int .i64, .str, .int .i64, .int .i64, .int .i64])] .leaf (.n (.n .leaf (.j [(1, .var [.int .i64, .int .i64, .int .i64, .str, .int .i64, .int .i64, .int .i64]), (20, .one (.int .i64)), (21, .one (.bool))] .leaf .leaf)) .leaf)))
noncomputable def e97 : List Ct := [C58, C59]
theorem k97 (k : Nat) (x : g97.In) : evFn tt e97 k Try.f97 [0] h97 g97 x = C97.run k x := by kernel_rfl
theorem S97 : SoundC Try.prog C97 := sndK (fn := Try.f97) ttOk (eC S58 (eC S59 eN)) (by kernel_rfl) (by kernel_rfl) (by kernel_rfl) (by kernel_rfl) k97
def g166 : Sg := ⟨[(.imm, (.int .i64))], [(.imm, .bool)]⟩
noncomputable def C166 : Ct := ⟨166, g166, fun k x => VF.cmp_isNaN_int k x.1⟩
def h166 : HT := .leaf
noncomputable def e166 : List Ct := []
theorem k166 (k : Nat) (x : g166.In) : evFn tt e166 k Try.f166 [0] h166 g166 x = C166.run k x := by kernel_rfl
theorem S166 : SoundC Try.prog C166 := sndK (fn := Try.f166) ttOk eN (by kernel_rfl) (by kernel_rfl) (by kernel_rfl) (by kernel_rfl) k166
def g150 : Sg := ⟨[(.imm, (.int .i64)), (.imm, (.int .i64))], [(.imm, (.int .i64))]⟩
noncomputable def C150 : Ct := ⟨150, g150, fun k x => VF.cmp_Compare_int k x.1 x.2.1⟩
def h150 : HT := .leaf
noncomputable def e150 : List Ct := [C166]
theorem k150 (k : Nat) (x : g150.In) : evFn tt e150 k Try.f150 [0, 1] h150 g150 x = C150.run k x := by kernel_rfl
theorem S150 : SoundC Try.prog C150 := sndK (fn := Try.f150) ttOk (eC S166 eN) (by kernel_rfl) (by kernel_rfl) (by kernel_rfl) (by kernel_rfl) k150
def g121 : Sg := ⟨[(.imm, (.sl (.int .i64))), (.imm, (.sl (.int .i64)))], [(.imm, (.int .i64))]⟩
noncomputable def C121 : Ct := ⟨121, g121, fun k x => VF.slices_Compare_int_int k x.1 x.2.1⟩
def h121 : HT := (.n .leaf (.j [] (.n .leaf (.l [(9, .one (.sl (.int .i64))), (10, .one (.int .i64)), (11, .one (.int .i64))] .leaf)) .leaf))
noncomputable def e121 : List Ct := [C150]
theorem k121 (k : Nat) (x : g121.In) : evFn tt e121 k Try.f121 [0, 1] h121 g121 x = C121.run k x := by kernel_rfl
theorem S121 : SoundC Try.prog C121 := sndK (fn := Try.f121) ttOk (eC S150 eN) (by kernel_rfl) (by kernel_rfl) (by kernel_rfl) (by kernel_rfl) k121
def g99 : Sg := ⟨[(.imm, c2), (.imm, c2)], [(.imm, (.int .i64))]⟩
noncomputable def C99 : Ct := ⟨99, g99, fun k x => VF.impl_compareEvents k x.1 x.2.1⟩
def h99 : HT := .leaf
noncomputable def e99 : List Ct := [C121]
theorem k99 (k : Nat) (x : g99.In) : evFn tt e99 k Try.f99 [0, 1] h99 g99 x = C99.run k x := by kernel_rfl
theorem S99 : SoundC Try.prog C99 := sndK (fn := Try.f99) ttOk (eC S121 eN) (by kernel_rfl) (by kernel_rfl) (by kernel_rfl) (by kernel_rfl) k99
def g148 : Sg := ⟨[(.mut, (.sl c2)), (.imm, (.int .i64)), (.imm, (.int .i64)), (.fn 99, .unit)], []⟩
noncomputable def C148 : Ct := ⟨148, g148, fun k x => VF.slices_insertionSortCmpFunc_impl_Event k x.1 x.2.1 x.2.2.1⟩
def h148 : HT := (.n .leaf (.l [(0, .pm (.sl c2)), (8, .one (.int .i64))] (.n .leaf (.j [(0, .pm (.sl c2)), (8, .one (.int .i64))] (.n .leaf (.l [(0, .pm (.sl c2)), (8, .one (.int .i64)), (9, .one (.int .i64))] .leaf)) .leaf))))
noncomputable def e148 : List Ct := [C99]
theorem k148 (k : Nat) (x : g148.In) : evFn tt e148 k Try.f148 [0, 1, 2, 3] h148 g148 x = C148.run k x := by kernel_rfl
theorem S148 : SoundC Try.prog C148 := sndK (fn := Try.f148) ttOk (eC S99 eN) (by kernel_rfl) (by kernel_rfl) (by kernel_rfl) (by kernel_rfl) k148
def g171 : Sg := ⟨[(.mut, (.sl c2)), (.imm, (.int .i64)), (.imm, (.int .i64)), (.imm, (.int .i64)), (.fn 99, .unit)], []⟩
noncomputable def C171 : Ct := ⟨171, g171, fun k x => VF.slices_swapRangeCmpFunc_impl_Event k x.1 x.2.1 x.2.2.1 x.2.2.2.1⟩
def h171 : HT := (.n .leaf (.l [(0, .pm (.sl c2)), (10, .one (.int .i64))] .leaf))
noncomputable def e171 : List Ct := [C99]
theorem k171 (k : Nat) (x : g171.In) : evFn tt e171 k Try.f171 [0, 1, 2, 3, 4] h171 g171 x = C171.run k x := by kernel_rfl
theorem S171 : SoundC Try.prog C171 := sndK (fn := Try.f171) ttOk (eC S99 eN) (by kernel_rfl) (by kernel_rfl) (by kernel_rfl) (by kernel_rfl) k171
def g165 : Sg := ⟨[(.mut, (.sl c2)), (.imm, (.int .i64)), (.imm, (.int .i64)), (.imm, (.int .i64)), (.fn 99, .unit)], []⟩
noncomputable def C165 : Ct := ⟨165, g165, fun k x => VF.slices_rotateCmpFunc_impl_Event k x.1 x.2.1 x.2.2.1 x.2.2.2.1⟩
def h165 : HT := (.n .leaf (.n .leaf (.j [(0, .pm (.sl c2)), (10, .one (.int .i64))] (.l [(0, .pm (.sl c2)), (10, .one (.int .i64)), (11, .one (.int .i64))] .leaf) .leaf)))
noncomputable def e165 : List Ct := [C99, C171]
theorem k165 (k : Nat) (x : g165.In) : evFn tt e165 k Try.f165 [0, 1, 2, 3, 4] h165 g165 x = C165.run k x := by kernel_rfl
theorem S165 : SoundC Try.prog C165 := sndK (fn := Try.f165) ttOk (eC S99 (eC S171 eN)) (by kernel_rfl) (by kernel_rfl) (by kernel_rfl) (by kernel_rfl) k165
def g149 : Sg := ⟨[(.mut, (.sl c2)), (.imm, (.int .i64)), (.imm, (.int .i64)), (.imm, (.int .i64)), (.fn 99, .unit)], []⟩
noncomputable def C149 : Ct := ⟨149, g149, fun k x => VF.slices_symMergeCmpFunc_impl_Event k x.1 x.2.1 x.2.2.1 x.2.2.2.1⟩
def h149 : HT := (.j [(0, .pm (.sl c2))] (.n .leaf (.n (.n .leaf (.n .leaf (.j [(0, .pm (.sl c2)), (10, .one (.int .i64))] (.l [(0, .pm (.sl c2)), (10, .one (.int .i64)), (11, .one (.int .i64))] .leaf) (.j [(0, .pm (.sl c2))] (.n .leaf (.l [(0, .pm (.sl c2)), (10, .one (.int .i64)), (13, .one (.int .i64))] .leaf)) .leaf)))) .leaf)) (.j [(0, .pm (.sl c2))] (.n .leaf (.n (.n .leaf (.n .leaf (.j [(0, .pm (.sl c2)), (14, .one (.int .i64))] (.l [(0, .pm (.sl c2)), (14, .one (.int .i64)), (15, .one (.int .i64))] .leaf) (.j [(0, .pm (.sl c2))] (.n .leaf (.l [(0, .pm (.sl c2)), (14, .one (.int .i64)), (17, .one (.int .i64))] .leaf)) .leaf)))) .leaf)) (.n .leaf (.n .leaf (.n .leaf (.j [(0, .pm (.sl c2)), (18, .one (.int .i64)), (19, .one (.int .i64)), (20, .one (.int .i64)), (21, .one (.int .i64))] .leaf (.n .leaf (.j [(0, .pm (.sl c2)), (18, .one (.int .i64)), (19, .one (.int .i64)), (20, .one (.int .i64))] (.l [(0, .pm (.sl c2)), (18, .one (.int .i64)), (19, .one (.int .i64)), (20, .one (.int .i64)), (21, .one (.int .i64)), (22, .one (.int .i64))] .leaf) (.n .leaf (.j [(0, .pm (.sl c2)), (18, .one (.int .i64)), (20, .one (.int .i64)), (24, .one (.int .i64))] .leaf (.j [(0, .pm (.sl c2)), (18, .one (.int .i64)), (24, .one (.int .i64))] .leaf .leaf)))))))))))
noncomputable def e149 : List Ct := [C99, C165]
theorem k149 (n k : Nat) (x : g149.In) : evFn tt (⟨149, g149, fun k x => VF.slices_symMergeCmpFunc_impl_Event.rec n k x.1 x.2.1 x.2.2.1 x.2.2.2.1⟩ :: e149) k Try.f149 [0, 1, 2, 3, 4] h149 g149 x = VF.slices_symMergeCmpFunc_impl_Event.rec (n + 1) k x.1 x.2.1 x.2.2.1 x.2.2.2.1 := by kernel_rfl
theorem S149 : SoundC Try.prog C149 := sndRec (fn := Try.f149) (F := fun n k (x : g149.In) => VF.slices_symMergeCmpFunc_impl_Event.rec n k x.1 x.2.1 x.2.2.1 x.2.2.2.1) ttOk (eC S99 (eC S165 eN)) (by kernel_rfl) (by kernel_rfl) (by kernel_rfl) (by kernel_rfl) (fun _ _ => rfl) k149
def g120 : Sg := ⟨[(.mut, (.sl c2)), (.imm, (.int .i64)), (.fn 99, .unit)], []⟩
noncomputable def C120 : Ct := ⟨120, g120, fun k x => VF.slices_stableCmpFunc_impl_Event k x.1 x.2.1⟩
def h120 : HT := (.n .leaf (.n .leaf (.j [(0, .pm (.sl c2)), (6, .one (.int .i64)), (7, .one (.int .i64))] (.l [(0, .pm (.sl c2)), (6, .one (.int .i64)), (7, .one (.int .i64)), (8, .one (.int .i64))] .leaf) (.n .leaf (.l [(0, .pm (.sl c2)), (6, .one (.int .i64))] (.n .leaf (.n .leaf (.j [(0, .pm (.sl c2)), (6, .one (.int .i64)), (7, .one (.int .i64))] (.l [(0, .pm (.sl c2)), (6, .one (.int .i64)), (7, .one (.int .i64)), (8, .one (.int .i64))] .leaf) .leaf))))))))
noncomputable def e120 : List Ct := [C99, C148, C149]
theorem k120 (k : Nat) (x : g120.In) : evFn tt e120 k Try.f120 [0, 1, 2] h120 g120 x = C120.run k x := by kernel_rfl
theorem S120 : SoundC Try.prog C120 := sndK (fn := Try.f120) ttOk (eC S99 (eC S148 (eC S149 eN))) (by kernel_rfl) (by kernel_rfl) (by kernel_rfl) (by kernel_rfl) k120
def g98 : Sg := ⟨[(.mut, (.sl c2)), (.fn 99, .unit)], []⟩
noncomputable def C98 : Ct := ⟨98, g98, fun k x => VF.slices_SortStableFunc_impl_Event_impl_Event k x.1⟩
def h98 : HT := .leaf
noncomputable def e98 : List Ct := [C99, C120]
theorem k98 (k : Nat) (x : g98.In) : evFn tt e98 k Try.f98 [0, 1] h98 g98 x = C98.run k x := by kernel_rfl
theorem S98 : SoundC Try.prog C98 := sndK (fn := Try.f98) ttOk (eC S99 (eC S120 eN)) (by kernel_rfl) (by kernel_rfl) (by kernel_rfl) (by kernel_rfl) k98
def g68 : Sg := ⟨[(.imm, (.sl c2))], [(.own true, (.sl c2))]⟩
noncomputable def C68 : Ct := ⟨68, g68, fun k x => VF.impl_SortEvents k x.1⟩
def h68 : HT := (.n .leaf (.n .leaf (.n .leaf (.n .leaf (.j [(3, .one (.row true c2)), (4, .one (.row true c2))] (.n .leaf (.l [(3, .one (.row true c2)), (4, .one (.row true c2)), (16, .one (.sl c2)), (17, .one (.int .i64)), (18, .one (.int .i64))] .leaf)) (.n .leaf (.n .leaf (.j [(3, .one (.row true c2))] (.n .leaf (.l [(3, .one (.row true c2)), (7, .one (.map (.int .i64) .bool)), (32, .one (.row true c2)), (33, .one (.int .i64)), (34, .one (.int .i64))] .leaf)) .leaf))))))))
noncomputable def e68 : List Ct := [C97, C98, C99]
theorem k68 (k : Nat) (x : g68.In) : evFn tt e68 k Try.f68 [0] h68 g68 x = C68.run k x := by kernel_rfl
theorem S68 : SoundC Try.prog C68 := sndK (fn := Try.f68) ttOk (eC S97 (eC S98 (eC S99 eN))) (by kernel_rfl) (by kernel_rfl) (by kernel_rfl) (by kernel_rfl) k68
def g122 : Sg := ⟨[(.imm, (.sl c4))], [(.own true, (.sl c4))]⟩
noncomputable def C122 : Ct := ⟨122, g122, fun k x => VF.impl_copyDocuments k x.1⟩
def h122 : HT := (.n .leaf (.n .leaf (.j [(3, .one (.row true c4))] (.n .leaf (.l [(3, .one (.row true c4)), (7, .one (.sl c4)), (8, .one (.int .i64)), (9, .one (.int .i64))] .leaf)) .leaf)))
noncomputable def e122 : List Ct := []
theorem k122 (k : Nat) (x : g122.In) : evFn tt e122 k Try.f122 [0] h122 g122 x = C122.run k x := by kernel_rfl
theorem S122 : SoundC Try.prog C122 := sndK (fn := Try.f122) ttOk eN (by kernel_rfl) (by kernel_rfl) (by kernel_rfl) (by kernel_rfl) k122
def g123 : Sg := ⟨[(.imm, (.sl c1))], [(.own true, (.sl c1))]⟩
noncomputable def C123 : Ct := ⟨123, g123, fun k x => VF.impl_copyLayers k x.1⟩
def h123 : HT := .leaf
noncomputable def e123 : List Ct := []
theorem k123 (k : Nat) (x : g123.In) : evFn tt e123 k Try.f123 [0] h123 g123 x = C123.run k x := by kernel_rfl
theorem S123 : SoundC Try.prog C123 := sndK (fn := Try.f123) ttOk eN (by kernel_rfl) (by kernel_rfl) (by kernel_rfl) (by kernel_rfl) k123
def g100 : Sg := ⟨[(.imm, c6)], [(.own true, c6)]⟩
noncomputable def C100 : Ct := ⟨100, g100, fun k x => VF.impl_copyBooks k x.1⟩
def h100 : HT := (.n .leaf (.n .leaf (.j [(2, .var [.row true c5, .int .i64, .row true c4]), (3, .var [.row true c5, .int .i64, .row true c4])] (.n .leaf (.l [(2, .var [.row true c5, .int .i64, .row true c4]), (3, .var [.row true c5, .int .i64, .row true c4]), (13, .one (.sl c5)), (14, .one (.int .i64)), (15, .one (.int .i64))] .leaf)) .leaf)))
noncomputable def e100 : List Ct := [C122, C123]
theorem k100 (k : Nat) (x : g100.In) : evFn tt e100 k Try.f100 [0] h100 g100 x = C100.run k x := by kernel_rfl
theorem S100 : SoundC Try.prog C100 := sndK (fn := Try.f100) ttOk (eC S122 (eC S123 eN)) (by kernel_rfl) (by kernel_rfl) (by kernel_rfl) (by kernel_rfl) k100
def g114 : Sg := ⟨[(.imm, (.sl c3))], [(.imm, .bool)]⟩
noncomputable def C114 : Ct := ⟨114, g114, fun k x => VF.impl_AreEntries k x.1⟩
def h114 : HT := (.n .leaf (.n .leaf (.j [(3, .one (.int .i64))] (.n .leaf (.l [(3, .one (.int .i64)), (6, .one (.sl c3)), (7, .one (.int .i64)), (8, .one (.int .i64))] .leaf)) .leaf)))
noncomputable def e114 : List Ct := [C58, C59]
theorem k114 (k : Nat) (x : g114.In) : evFn tt e114 k Try.f114 [0] h114 g114 x = C114.run k x := by kernel_rfl
theorem S114 : SoundC Try.prog C114 := sndK (fn := Try.f114) ttOk (eC S58 (eC S59 eN)) (by kernel_rfl) (by kernel_rfl) (by kernel_rfl) (by kernel_rfl) k114
def g90 : Sg := ⟨[(.imm, (.sl c4))], [(.imm, .bool)]⟩
noncomputable def C90 : Ct := ⟨90, g90, fun k x => VF.impl_AreDocuments k x.1⟩
def h90 : HT := (.n .leaf (.j [] (.n .leaf (.l [(5, .one (.sl c4)), (6, .one (.int .i64)), (7, .one (.int .i64))] .leaf)) .leaf))
noncomputable def e90 : List Ct := [C59, C114]
theorem k90 (k : Nat) (x : g90.In) : evFn tt e90 k Try.f90 [0] h90 g90 x = C90.run k x := by kernel_rfl
theorem S90 : SoundC Try.prog C90 := sndK (fn := Try.f90) ttOk (eC S59 (eC S114 eN)) (by kernel_rfl) (by kernel_rfl) (by kernel_rfl) (by kernel_rfl) k90
def g124 : Sg := ⟨[(.imm, (.sl c1))], [(.imm, .bool)]⟩
noncomputable def C124 : Ct := ⟨124, g124, fun k x => VF.impl_AreLayers k x.1⟩
def h124 : HT := (.n .leaf (.j [] (.n .leaf (.l [(5, .one (.sl c1)), (6, .one (.int .i64)), (7, .one (.int .i64))] (.n .leaf (.n .leaf (.j [(5, .one (.sl c1)), (6, .one (.int .i64)), (7, .one (.int .i64))] .leaf .leaf))))) .leaf))
noncomputable def e124 : List Ct := [C59]
theorem k124 (k : Nat) (x : g124.In) : evFn tt e124 k Try.f124 [0] h124 g124 x = C124.run k x := by kernel_rfl
theorem S124 : SoundC Try.prog C124 := sndK (fn := Try.f124) ttOk (eC S59 eN) (by kernel_rfl) (by kernel_rfl) (by kernel_rfl) (by kernel_rfl) k124
def g101 : Sg := ⟨[(.imm, c6)], [(.imm, .bool)]⟩
noncomputable def C101 : Ct := ⟨101, g101, fun k x => VF.impl_AreBooks k x.1⟩
def h101 : HT := (.n .leaf (.j [(1, .var [.sl c5, .int .i64, .sl c4])] (.n .leaf (.l [(1, .var [.sl c5, .int .i64, .sl c4]), (8, .one (.sl c5)), (9, .one (.int .i64)), (10, .one (.int .i64))] (.n .leaf (.n .leaf (.j [(1, .var [.sl c5, .int .i64, .sl c4]), (8, .one (.sl c5)), (9, .one (.int .i64)), (10, .one (.int .i64))] (.n .leaf (.j [(1, .var [.sl c5, .int .i64, .sl c4]), (4, .var [.str, .sl (.int .i64), .sl c1]), (8, .one (.sl c5)), (9, .one (.int .i64)), (10, .one (.int .i64))] .leaf (.n .leaf (.l [(1, .var [.sl c5, .int .i64, .sl c4]), (8, .one (.sl c5)), (9, .one (.int .i64)), (10, .one (.int .i64)), (51, .one (.sl (.int .i64))), (52, .one (.int .i64)), (53, .one (.int .i64))] .leaf)))) .leaf))))) .leaf))
noncomputable def e101 : List Ct := [C58, C59, C90, C124]
theorem k101 (k : Nat) (x : g101.In) : evFn tt e101 k Try.f101 [0] h101 g101 x = C101.run k x := by kernel_rfl
theorem S101 : SoundC Try.prog C101 := sndK (fn := Try.f101) ttOk (eC S58 (eC S59 (eC S90 (eC S124 eN)))) (by kernel_rfl) (by kernel_rfl) (by kernel_rfl) (by kernel_rfl) k101
def g151 : Sg := ⟨[(.imm, c6), (.imm, .str)], [(.imm, (.int .i64))]⟩
noncomputable def C151 : Ct := ⟨151, g151, fun k x => VF.impl_shelfOf k x.1 x.2.1⟩
def h151 : HT := (.n .leaf (.j [] (.n .leaf (.l [(8, .one (.sl c5)), (9, .one (.int .i64)), (10, .one (.int .i64))] .leaf)) .leaf))
noncomputable def e151 : List Ct := []
theorem k151 (k : Nat) (x : g151.In) : evFn tt e151 k Try.f151 [0, 1] h151 g151 x = C151.run k x := by kernel_rfl
theorem S151 : SoundC Try.prog C151 := sndK (fn := Try.f151) ttOk eN (by kernel_rfl) (by kernel_rfl) (by kernel_rfl) (by kernel_rfl) k151
def g152 : Sg := ⟨[(.imm, (.sl c1)), (.imm, (.int .i64)), (.imm, (.int .i64))], [(.own true, (.sl c1)), (.imm, .bool)]⟩
noncomputable def C152 : Ct := ⟨152, g152, fun k x => VF.impl_ReceiveLayer k x.1 x.2.1 x.2.2.1⟩
def h152 : HT := .leaf
noncomputable def e152 : List Ct := [C123, C124]
theorem k152 (k : Nat) (x : g152.In) : evFn tt e152 k Try.f152 [0, 1, 2] h152 g152 x = C152.run k x := by kernel_rfl
theorem S152 : SoundC Try.prog C152 := sndK (fn := Try.f152) ttOk (eC S123 (eC S124 eN)) (by kernel_rfl) (by kernel_rfl) (by kernel_rfl) (by kernel_rfl) k152
def g125 : Sg := ⟨[(.ptr, c6), (.imm, c2)], [(.imm, .bool)]⟩
noncomputable def C125 : Ct := ⟨125, g125, fun k x => VF.impl_receive k x.1 x.2.1⟩
def h125 : HT := (.n .leaf (.n .leaf (.j [(0, .pp [.row true c5, .int .i64, .row true c4]), (3, .var [.int .i64, .int .i64, .int .i64, .str, .int .i64, .int .i64, .int .i64]), (5, .one (.int .i64))] (.n .leaf (.n (.n .leaf (.n .leaf (.j [(0, .pp [.row true c5, .int .i64, .row true c4]), (3, .var [.int .i64, .int .i64, .int .i64, .str, .int .i64, .int .i64, .int .i64]), (5, .one (.int .i64))] (.l [(0, .pp [.row true c5, .int .i64, .row true c4]), (3, .var [.int .i64, .int .i64, .int .i64, .str, .int .i64, .int .i64, .int .i64]), (5, .one (.int .i64))] .leaf) .leaf))) .leaf)) .leaf)))
noncomputable def e125 : List Ct := [C151, C152]
theorem k125 (k : Nat) (x : g125.In) : evFn tt e125 k Try.f125 [0, 1] h125 g125 x = C125.run k x := by kernel_rfl
theorem S125 : SoundC Try.prog C125 := sndK (fn := Try.f125) ttOk (eC S151 (eC S152 eN)) (by kernel_rfl) (by kernel_rfl) (by kernel_rfl) (by kernel_rfl) k125
def g153 : Sg := ⟨[(.imm, (.sl c4)), (.imm, (.int .i64)), (.imm, (.sl c3))], [(.own true, (.sl c4)), (.imm, .bool)]⟩
noncomputable def C153 : Ct := ⟨153, g153, fun k x => VF.impl_PostEntries k x.1 x.2.1 x.2.2.1⟩
def h153 : HT := .leaf
noncomputable def e153 : List Ct := [C90, C122]
theorem k153 (k : Nat) (x : g153.In) : evFn tt e153 k Try.f153 [0, 1, 2] h153 g153 x = C153.run k x := by kernel_rfl
theorem S153 : SoundC Try.prog C153 := sndK (fn := Try.f153) ttOk (eC S90 (eC S122 eN)) (by kernel_rfl) (by kernel_rfl) (by kernel_rfl) (by kernel_rfl) k153
def g126 : Sg := ⟨[(.ptr, c6), (.imm, (.int .i64)), (.imm, (.sl c3))], [(.imm, .bool)]⟩
noncomputable def C126 : Ct := ⟨126, g126, fun k x => VF.impl_post k x.1 x.2.1 x.2.2.1⟩
def h126 : HT := (.n .leaf (.n .leaf (.j [(0, .pp [.row true c5, .int .i64, .row true c4]), (7, .one (.row true c3))] (.n .leaf (.l [(0, .pp [.row true c5, .int .i64, .row true c4]), (7, .one (.row true c3)), (13, .one (.sl c3)), (14, .one (.int .i64)), (15, .one (.int .i64))] .leaf)) .leaf)))
noncomputable def e126 : List Ct := [C153]
theorem k126 (k : Nat) (x : g126.In) : evFn tt e126 k Try.f126 [0, 1, 2] h126 g126 x = C126.run k x := by kernel_rfl
theorem S126 : SoundC Try.prog C126 := sndK (fn := Try.f126) ttOk (eC S153 eN) (by kernel_rfl) (by kernel_rfl) (by kernel_rfl) (by kernel_rfl) k126
def g167 : Sg := ⟨[(.imm, (.sl c1))], [(.imm, (.int .i64))]⟩
noncomputable def C167 : Ct := ⟨167, g167, fun k x => VF.impl_LeftOf k x.1⟩
def h167 : HT := (.n .leaf (.n .leaf (.n .leaf (.j [(3, .one (.int .i64))] (.n .leaf (.l [(3, .one (.int .i64)), (9, .one (.sl c1)), (10, .one (.int .i64)), (11, .one (.int .i64))] .leaf)) .leaf))))
noncomputable def e167 : List Ct := [C124]
theorem k167 (k : Nat) (x : g167.In) : evFn tt e167 k Try.f167 [0] h167 g167 x = C167.run k x := by kernel_rfl
theorem S167 : SoundC Try.prog C167 := sndK (fn := Try.f167) ttOk (eC S124 eN) (by kernel_rfl) (by kernel_rfl) (by kernel_rfl) (by kernel_rfl) k167
def g168 : Sg := ⟨[(.imm, c1), (.imm, (.int .i64))], [(.imm, (.int .i64))]⟩
noncomputable def C168 : Ct := ⟨168, g168, fun k x => VF.impl_firstCost k x.1 x.2.1⟩
def h168 : HT := .leaf
noncomputable def e168 : List Ct := []
theorem k168 (k : Nat) (x : g168.In) : evFn tt e168 k Try.f168 [0, 1] h168 g168 x = C168.run k x := by kernel_rfl
theorem S168 : SoundC Try.prog C168 := sndK (fn := Try.f168) ttOk eN (by kernel_rfl) (by kernel_rfl) (by kernel_rfl) (by kernel_rfl) k168
def g154 : Sg := ⟨[(.imm, (.sl c1)), (.imm, (.int .i64))], [(.own true, (.sl c1)), (.imm, (.int .i64)), (.imm, .bool)]⟩
noncomputable def C154 : Ct := ⟨154, g154, fun k x => VF.impl_IssueLayers k x.1 x.2.1⟩
def h154 : HT := (.n .leaf (.j [(1, .one (.int .i64))] .leaf (.n .leaf (.n .leaf (.j [(7, .one (.row true c1)), (8, .one (.int .i64))] (.n .leaf (.l [(1, .one (.int .i64)), (7, .one (.row true c1)), (8, .one (.int .i64)), (25, .one (.int .i64)), (26, .one (.int .i64))] .leaf)) .leaf)))))
noncomputable def e154 : List Ct := [C59, C123, C124, C167, C168]
theorem k154 (k : Nat) (x : g154.In) : evFn tt e154 k Try.f154 [0] h154 g154 x = C154.run k x := by kernel_rfl
theorem S154 : SoundC Try.prog C154 := sndK (fn := Try.f154) ttOk (eC S59 (eC S123 (eC S124 (eC S167 (eC S168 eN))))) (by kernel_rfl) (by kernel_rfl) (by kernel_rfl) (by kernel_rfl) k154
def g127 : Sg := ⟨[(.ptr, c6), (.imm, c2)], [(.imm, (.int .i64)), (.imm, .bool)]⟩
noncomputable def C127 : Ct := ⟨127, g127, fun k x => VF.impl_issue k x.1 x.2.1⟩
def h127 : HT := .leaf
noncomputable def e127 : List Ct := [C151, C154]
theorem k127 (k : Nat) (x : g127.In) : evFn tt e127 k Try.f127 [0, 1] h127 g127 x = C127.run k x := by kernel_rfl
theorem S127 : SoundC Try.prog C127 := sndK (fn := Try.f127) ttOk (eC S151 (eC S154 eN)) (by kernel_rfl) (by kernel_rfl) (by kernel_rfl) (by kernel_rfl) k127
def g155 : Sg := ⟨[(.imm, (.sl c1)), (.imm, (.int .i64)), (.imm, (.int .i64))], [(.own true, (.sl c1)), (.imm, (.int .i64)), (.imm, .bool)]⟩
noncomputable def C155 : Ct := ⟨155, g155, fun k x => VF.impl_AddLate k x.1 x.2.1 x.2.2.1⟩
def h155 : HT := (.n .leaf (.j [] .leaf .leaf))
noncomputable def e155 : List Ct := [C59, C123, C124, C168]
theorem k155 (k : Nat) (x : g155.In) : evFn tt e155 k Try.f155 [0, 1, 2] h155 g155 x = C155.run k x := by kernel_rfl
theorem S155 : SoundC Try.prog C155 := sndK (fn := Try.f155) ttOk (eC S59 (eC S123 (eC S124 (eC S168 eN)))) (by kernel_rfl) (by kernel_rfl) (by kernel_rfl) (by kernel_rfl) k155
def g128 : Sg := ⟨[(.ptr, c6), (.imm, c2)], [(.imm, (.int .i64)), (.imm, (.int .i64))]⟩
noncomputable def C128 : Ct := ⟨128, g128, fun k x => VF.impl_late k x.1 x.2.1⟩
def h128 : HT := (.n .leaf (.n .leaf (.n .leaf (.n .leaf (.n .leaf (.j [(0, .pp [.row true c5, .int .i64, .row true c4]), (3, .var [.int .i64, .int .i64, .int .i64, .str, .int .i64, .int .i64, .int .i64]), (7, .ep 0 1 0 c5), (8, .one (.int .i64))] (.n .leaf (.l [(0, .pp [.row true c5, .int .i64, .row true c4]), (3, .var [.int .i64, .int .i64, .int .i64, .str, .int .i64, .int .i64, .int .i64]), (7, .ep 0 1 0 c5), (8, .one (.int .i64)), (31, .nr 0 1 1 (.int .i64)), (32, .one (.int .i64)), (33, .one (.int .i64))] .leaf)) .leaf))))))
noncomputable def e128 : List Ct := [C151, C155]
theorem k128 (k : Nat) (x : g128.In) : evFn tt e128 k Try.f128 [0, 1] h128 g128 x = C128.run k x := by kernel_rfl
theorem S128 : SoundC Try.prog C128 := sndK (fn := Try.f128) ttOk (eC S151 (eC S155 eN)) (by kernel_rfl) (by kernel_rfl) (by kernel_rfl) (by kernel_rfl) k128
def g102 : Sg := ⟨[(.ptr, c6), (.imm, c2)], [(.imm, (.int .i64))]⟩
noncomputable def C102 : Ct := ⟨102, g102, fun k x => VF.impl_book k x.1 x.2.1⟩
def h102 : HT := (.n .leaf (.n .leaf (.j [(0, .pp [.row true c5, .int .i64, .row true c4]), (5, .one (.bool))] (.n .leaf (.n .leaf (.n .leaf (.n .leaf (.n .leaf (.j [(0, .pp [.row true c5, .int .i64, .row true c4]), (3, .var [.int .i64, .int .i64, .int .i64, .str, .int .i64, .int .i64, .int .i64]), (5, .one (.bool)), (11, .one (.int .i64)), (66, .one (.bool))] .leaf .leaf)))))) .leaf)))
noncomputable def e102 : List Ct := [C125, C126, C127, C128]
theorem k102 (k : Nat) (x : g102.In) : evFn tt e102 k Try.f102 [0, 1] h102 g102 x = C102.run k x := by kernel_rfl
theorem S102 : SoundC Try.prog C102 := sndK (fn := Try.f102) ttOk (eC S125 (eC S126 (eC S127 (eC S128 eN)))) (by kernel_rfl) (by kernel_rfl) (by kernel_rfl) (by kernel_rfl) k102
def g69 : Sg := ⟨[(.imm, c6), (.imm, c2)], [(.own true, c6), (.imm, (.int .i64))]⟩
noncomputable def C69 : Ct := ⟨69, g69, fun k x => VF.impl_BookEvent k x.1 x.2.1⟩
def h69 : HT := (.n .leaf (.n .leaf (.j [(2, .var [.sl c5, .int .i64, .sl c4]), (3, .var [.int .i64, .int .i64, .int .i64, .str, .int .i64, .int .i64, .int .i64]), (4, .var [.row true c5, .int .i64, .row true c4]), (6, .var [.row true c5, .int .i64, .row true c4])] .leaf .leaf)))
noncomputable def e69 : List Ct := [C97, C100, C101, C102]
theorem k69 (k : Nat) (x : g69.In) : evFn tt e69 k Try.f69 [0, 1] h69 g69 x = C69.run k x := by kernel_rfl
theorem S69 : SoundC Try.prog C69 := sndK (fn := Try.f69) ttOk (eC S97 (eC S100 (eC S101 (eC S102 eN)))) (by kernel_rfl) (by kernel_rfl) (by kernel_rfl) (by kernel_rfl) k69
def g31 : Sg := ⟨[(.imm, (.sl c2))], [(.own true, c6), (.own true, (.sl (.int .i64)))]⟩
noncomputable def C31 : Ct := ⟨31, g31, fun k x => VF.impl_BooksOf k x.1⟩
def h31 : HT := (.n .leaf (.n .leaf (.j [(2, .var [.row true c5, .int .i64, .row true c4]), (4, .var [.row true c5, .int .i64, .row true c4]), (5, .one (.row true (.int .i64)))] (.n .leaf (.l [(2, .var [.row true c5, .int .i64, .row true c4]), (4, .var [.row true c5, .int .i64, .row true c4]), (5, .one (.row true (.int .i64))), (13, .one (.row true c2)), (14, .one (.int .i64)), (15, .one (.int .i64))] .leaf)) .leaf)))
noncomputable def e31 : List Ct := [C68, C69]
theorem k31 (k : Nat) (x : g31.In) : evFn tt e31 k Try.f31 [0] h31 g31 x = C31.run k x := by kernel_rfl
theorem S31 : SoundC Try.prog C31 := sndK (fn := Try.f31) ttOk (eC S68 (eC S69 eN)) (by kernel_rfl) (by kernel_rfl) (by kernel_rfl) (by kernel_rfl) k31
def g70 : Sg := ⟨[(.imm, c5), (.imm, c5)], [(.imm, .bool)]⟩
noncomputable def C70 : Ct := ⟨70, g70, fun k x => VF.impl_sameShelf k x.1 x.2.1⟩
def h70 : HT := (.n .leaf (.j [(2, .var [.str, .sl (.int .i64), .sl c1]), (3, .var [.str, .sl (.int .i64), .sl c1])] .leaf (.j [(2, .var [.str, .sl (.int .i64), .sl c1]), (3, .var [.str, .sl (.int .i64), .sl c1])] (.n .leaf (.l [(2, .var [.str, .sl (.int .i64), .sl c1]), (3, .var [.str, .sl (.int .i64), .sl c1]), (32, .one (.int .i64)), (33, .one (.int .i64))] .leaf)) (.j [] (.n .leaf (.l [(2, .var [.str, .sl (.int .i64), .sl c1]), (3, .var [.str, .sl (.int .i64), .sl c1]), (50, .one (.int .i64)), (51, .one (.int .i64))] .leaf)) .leaf))))
noncomputable def e70 : List Ct := []
theorem k70 (k : Nat) (x : g70.In) : evFn tt e70 k Try.f70 [0, 1] h70 g70 x = C70.run k x := by kernel_rfl
theorem S70 : SoundC Try.prog C70 := sndK (fn := Try.f70) ttOk eN (by kernel_rfl) (by kernel_rfl) (by kernel_rfl) (by kernel_rfl) k70
def g71 : Sg := ⟨[(.imm, c4), (.imm, c4)], [(.imm, .bool)]⟩
noncomputable def C71 : Ct := ⟨71, g71, fun k x => VF.impl_sameDocument k x.1 x.2.1⟩
def h71 : HT := (.n .leaf (.j [(2, .var [.int .i64, .int .i64, .sl c3]), (3, .var [.int .i64, .int .i64, .sl c3])] .leaf (.j [] (.n .leaf (.l [(2, .var [.int .i64, .int .i64, .sl c3]), (3, .var [.int .i64, .int .i64, .sl c3]), (29, .one (.int .i64)), (30, .one (.int .i64))] .leaf)) .leaf)))
noncomputable def e71 : List Ct := []
theorem k71 (k : Nat) (x : g71.In) : evFn tt e71 k Try.f71 [0, 1] h71 g71 x = C71.run k x := by kernel_rfl
theorem S71 : SoundC Try.prog C71 := sndK (fn := Try.f71) ttOk eN (by kernel_rfl) (by kernel_rfl) (by kernel_rfl) (by kernel_rfl) k71
def g32 : Sg := ⟨[(.imm, c6), (.imm, c6)], [(.imm, .bool)]⟩
noncomputable def C32 : Ct := ⟨32, g32, fun k x => VF.impl_SameBooks k x.1 x.2.1⟩
def h32 : HT := (.n .leaf (.j [(2, .var [.sl c5, .int .i64, .sl c4]), (3, .var [.sl c5, .int .i64, .sl c4])] .leaf (.j [(2, .var [.sl c5, .int .i64, .sl c4]), (3, .var [.sl c5, .int .i64, .sl c4])] (.n .leaf (.l [(2, .var [.sl c5, .int .i64, .sl c4]), (3, .var [.sl c5, .int .i64, .sl c4]), (32, .one (.int .i64)), (33, .one (.int .i64))] .leaf)) (.j [] (.n .leaf (.l [(2, .var [.sl c5, .int .i64, .sl c4]), (3, .var [.sl c5, .int .i64, .sl c4]), (51, .one (.int .i64)), (52, .one (.int .i64))] .leaf)) .leaf))))
noncomputable def e32 : List Ct := [C70, C71]
theorem k32 (k : Nat) (x : g32.In) : evFn tt e32 k Try.f32 [0, 1] h32 g32 x = C32.run k x := by kernel_rfl
theorem S32 : SoundC Try.prog C32 := sndK (fn := Try.f32) ttOk (eC S70 (eC S71 eN)) (by kernel_rfl) (by kernel_rfl) (by kernel_rfl) (by kernel_rfl) k32
def g33 : Sg := ⟨[(.imm, c6), (.imm, c6)], [(.imm, .bool)]⟩
noncomputable def C33 : Ct := ⟨33, g33, fun k x => VF.spec_SameBooks k x.1 x.2.1⟩
def h33 : HT := (.n .leaf (.j [(2, .var [.sl c5, .int .i64, .sl c4]), (3, .var [.sl c5, .int .i64, .sl c4])] .leaf (.j [(2, .var [.sl c5, .int .i64, .sl c4]), (3, .var [.sl c5, .int .i64, .sl c4])] (.n .leaf (.l [(2, .var [.sl c5, .int .i64, .sl c4]), (3, .var [.sl c5, .int .i64, .sl c4]), (5, .one (.int .i64))] (.n .leaf (.j [(2, .var [.sl c5, .int .i64, .sl c4]), (3, .var [.sl c5, .int .i64, .sl c4]), (5, .one (.int .i64))] (.n .leaf (.n .leaf (.j [(2, .var [.sl c5, .int .i64, .sl c4]), (3, .var [.sl c5, .int .i64, .sl c4]), (5, .one (.int .i64)), (6, .var [.str, .sl (.int .i64), .sl c1]), (7, .var [.str, .sl (.int .i64), .sl c1])] .leaf (.j [(2, .var [.sl c5, .int .i64, .sl c4]), (3, .var [.sl c5, .int .i64, .sl c4]), (5, .one (.int .i64)), (6, .var [.str, .sl (.int .i64), .sl c1]), (7, .var [.str, .sl (.int .i64), .sl c1])] (.n .leaf (.l [(2, .var [.sl c5, .int .i64, .sl c4]), (3, .var [.sl c5, .int .i64, .sl c4]), (5, .one (.int .i64)), (6, .var [.str, .sl (.int .i64), .sl c1]), (7, .var [.str, .sl (.int .i64), .sl c1]), (8, .one (.int .i64))] .leaf)) (.n .leaf (.l [(2, .var [.sl c5, .int .i64, .sl c4]), (3, .var [.sl c5, .int .i64, .sl c4]), (5, .one (.int .i64)), (6, .var [.str, .sl (.int .i64), .sl c1]), (7, .var [.str, .sl (.int .i64), .sl c1]), (9, .one (.int .i64))] .leaf)))))) .leaf)))) (.j [] (.n .leaf (.l [(2, .var [.sl c5, .int .i64, .sl c4]), (3, .var [.sl c5, .int .i64, .sl c4]), (10, .one (.int .i64))] (.n .leaf (.j [(2, .var [.sl c5, .int .i64, .sl c4]), (3, .var [.sl c5, .int .i64, .sl c4]), (10, .one (.int .i64))] (.n .leaf (.n .leaf (.j [(2, .var [.sl c5, .int .i64, .sl c4]), (3, .var [.sl c5, .int .i64, .sl c4]), (10, .one (.int .i64)), (11, .var [.int .i64, .int .i64, .sl c3]), (12, .var [.int .i64, .int .i64, .sl c3])] .leaf (.n .leaf (.l [(2, .var [.sl c5, .int .i64, .sl c4]), (3, .var [.sl c5, .int .i64, .sl c4]), (10, .one (.int .i64)), (11, .var [.int .i64, .int .i64, .sl c3]), (12, .var [.int .i64, .int .i64, .sl c3]), (13, .one (.int .i64))] .leaf))))) .leaf)))) .leaf))))
noncomputable def e33 : List Ct := []
theorem k33 (k : Nat) (x : g33.In) : evFn tt e33 k Try.f33 [0, 1] h33 g33 x = C33.run k x := by kernel_rfl
theorem S33 : SoundC Try.prog C33 := sndK (fn := Try.f33) ttOk eN (by kernel_rfl) (by kernel_rfl) (by kernel_rfl) (by kernel_rfl) k33
def g6 : Sg := ⟨[(.imm, (.sl (.int .u8)))], [(.imm, .bool)]⟩
noncomputable def C6 : Ct := ⟨6, g6, fun k x => VF.laws_FnTakenBack k x.1⟩
def h6 : HT := (.n .leaf (.n .leaf (.n .leaf (.n .leaf (.j [(4, .one (.int .i64)), (5, .one (.row true c2))] (.n .leaf (.l [(4, .one (.int .i64)), (5, .one (.row true c2)), (6, .one (.int .i64))] .leaf)) .leaf)))))
noncomputable def e6 : List Ct := [C21, C29, C30, C31, C32, C33]
theorem k6 (k : Nat) (x : g6.In) : evFn tt e6 k Try.f6 [0] h6 g6 x = C6.run k x := by kernel_rfl
theorem S6 : SoundC Try.prog C6 := sndK (fn := Try.f6) ttOk (eC S21 (eC S29 (eC S30 (eC S31 (eC S32 (eC S33 eN)))))) (by kernel_rfl) (by kernel_rfl) (by kernel_rfl) (by kernel_rfl) k6
