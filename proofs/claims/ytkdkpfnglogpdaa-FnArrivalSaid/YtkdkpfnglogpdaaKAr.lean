/- The contracts of all functions that the law reaches. -/
import Derived.Test.YtkdkpfnglogpdaaVG3
import Derived.Test.YtkdkpfnglogpdaaKVa2
import Derived.Test.YtkdkpfnglogpdaaProg
set_option linter.unusedVariables false
open Go Go.Proofs Go.Shelf VM
set_option maxRecDepth 100000
abbrev c0 : CK := .pair (.sl (.int .u8)) (.pair (.int .i64) (.pair (.int .i64) .unit))
abbrev c1 : CK := .pair (.int .i64) (.pair (.int .i64) (.pair (.int .i64) .unit))
abbrev c2 : CK := .pair (.int .i64) (.pair (.int .i64) (.pair (.int .i64) (.pair .str c1)))
abbrev c3 : CK := .pair .str (.pair (.int .i64) .unit)
abbrev c4 : CK := .pair (.int .i64) (.pair (.int .i64) (.pair (.sl c3) .unit))
abbrev c5 : CK := .pair .str (.pair (.sl (.int .i64)) (.pair (.sl c1) .unit))
abbrev c6 : CK := .pair (.sl c5) (.pair (.int .i64) (.pair (.sl c4) .unit))
def tt : List (Nat × TD) := [(3, .val (.int .i64) 8 []), (5, .val (.int .u8) 1 []), (9, .val .str 16 []), (22, .val (.sl (.int .u8)) 1 []), (24, .val (.sl c2) 64 []), (27, .val c2 64 [(0, (.int .i64)), (1, (.int .i64)), (2, (.int .i64)), (3, .str), (4, (.int .i64)), (5, (.int .i64)), (6, (.int .i64))]), (28, .val (.sl c5) 64 []), (29, .val (.sl c4) 40 []), (31, .val c6 56 [(0, (.sl c5)), (1, (.int .i64)), (2, (.sl c4))]), (32, .val (.sl (.int .i64)) 8 []), (42, .val (.sl c3) 24 []), (56, .other), (61, .val (.sl c1) 24 []), (63, .val c5 64 [(0, .str), (1, (.sl (.int .i64))), (2, (.sl c1))]), (66, .val c4 40 [(0, (.int .i64)), (1, (.int .i64)), (2, (.sl c3))]), (68, .val c1 24 [(0, (.int .i64)), (1, (.int .i64)), (2, (.int .i64))]), (70, .val c3 24 [(0, .str), (1, (.int .i64))]), (73, .other), (74, .map (.int .i64) .bool), (94, .val c0 40 [(0, (.sl (.int .u8))), (1, (.int .i64)), (2, (.int .i64))]), (97, .other), (105, .val (.sl .str) 16 []), (125, .val (.int .u64) 8 [])]
theorem ttOk : TTok Try.prog tt := ttB_ok (by kernel_rfl)
def g6 : Sg := ⟨[(.imm, (.sl (.int .u8)))], [(.imm, .bool)]⟩
noncomputable def C6 : Ct := ⟨6, g6, fun k x => VF.laws_big k x.1⟩
def h6 : HT := .leaf
noncomputable def e6 : List Ct := []
theorem k6 (k : Nat) (x : g6.In) : evFn tt e6 k Try.f6 [0] h6 g6 x = C6.run k x := by kernel_rfl
theorem S6 : SoundC Try.prog C6 := sndK (fn := Try.f6) ttOk eN (by kernel_rfl) (by kernel_rfl) (by kernel_rfl) (by kernel_rfl) k6
def g79 : Sg := ⟨[(.pts, c0)], [(.imm, (.int .i64))]⟩
noncomputable def C79 : Ct := ⟨79, g79, fun k x => VF.spec_l1Byte k x.1⟩
def h79 : HT := .leaf
noncomputable def e79 : List Ct := []
theorem k79 (k : Nat) (x : g79.In) : evFn tt e79 k Try.f79 [0] h79 g79 x = C79.run k x := by kernel_rfl
theorem S79 : SoundC Try.prog C79 := sndK (fn := Try.f79) ttOk eN (by kernel_rfl) (by kernel_rfl) (by kernel_rfl) (by kernel_rfl) k79
def g47 : Sg := ⟨[(.pts, c0), (.imm, (.int .i64))], [(.imm, (.int .i64))]⟩
noncomputable def C47 : Ct := ⟨47, g47, fun k x => VF.spec_l1Below k x.1 x.2.1⟩
def h47 : HT := .leaf
noncomputable def e47 : List Ct := [C79]
theorem k47 (k : Nat) (x : g47.In) : evFn tt e47 k Try.f47 [0, 1] h47 g47 x = C47.run k x := by kernel_rfl
theorem S47 : SoundC Try.prog C47 := sndK (fn := Try.f47) ttOk (eC S79 eN) (by kernel_rfl) (by kernel_rfl) (by kernel_rfl) (by kernel_rfl) k47
def g46 : Sg := ⟨[(.pts, c0), (.imm, (.int .i64))], [(.imm, .bool)]⟩
noncomputable def C46 : Ct := ⟨46, g46, fun k x => VF.spec_l1Once k x.1 x.2.1⟩
def h46 : HT := .leaf
noncomputable def e46 : List Ct := [C47]
theorem k46 (k : Nat) (x : g46.In) : evFn tt e46 k Try.f46 [0, 1] h46 g46 x = C46.run k x := by kernel_rfl
theorem S46 : SoundC Try.prog C46 := sndK (fn := Try.f46) ttOk (eC S47 eN) (by kernel_rfl) (by kernel_rfl) (by kernel_rfl) (by kernel_rfl) k46
def g94 : Sg := ⟨[(.pts, c0), (.own, (.sl .str))], [(.imm, .str)]⟩
noncomputable def C94 : Ct := ⟨94, g94, fun k x => VF.spec_l1Pick k x.1 x.2.1⟩
def h94 : HT := .leaf
noncomputable def e94 : List Ct := [C47]
theorem k94 (k : Nat) (x : g94.In) : evFn tt e94 k Try.f94 [0] h94 g94 x = C94.run k x := by kernel_rfl
theorem S94 : SoundC Try.prog C94 := sndK (fn := Try.f94) ttOk (eC S47 eN) (by kernel_rfl) (by kernel_rfl) (by kernel_rfl) (by kernel_rfl) k94
def g120 : Sg := ⟨[(.pts, c0), (.own, (.sl (.int .i64)))], [(.imm, (.int .i64))]⟩
noncomputable def C120 : Ct := ⟨120, g120, fun k x => VF.spec_l1PickInt k x.1 x.2.1⟩
def h120 : HT := .leaf
noncomputable def e120 : List Ct := [C47]
theorem k120 (k : Nat) (x : g120.In) : evFn tt e120 k Try.f120 [0] h120 g120 x = C120.run k x := by kernel_rfl
theorem S120 : SoundC Try.prog C120 := sndK (fn := Try.f120) ttOk (eC S47 eN) (by kernel_rfl) (by kernel_rfl) (by kernel_rfl) (by kernel_rfl) k120
def g119 : Sg := ⟨[(.pts, c0)], [(.imm, (.int .i64))]⟩
noncomputable def C119 : Ct := ⟨119, g119, fun k x => VF.spec_l1Odd k x.1⟩
def h119 : HT := .leaf
noncomputable def e119 : List Ct := [C120]
theorem k119 (k : Nat) (x : g119.In) : evFn tt e119 k Try.f119 [0] h119 g119 x = C119.run k x := by kernel_rfl
theorem S119 : SoundC Try.prog C119 := sndK (fn := Try.f119) ttOk (eC S120 eN) (by kernel_rfl) (by kernel_rfl) (by kernel_rfl) (by kernel_rfl) k119
def g121 : Sg := ⟨[(.pts, c0)], [(.imm, (.int .i64))]⟩
noncomputable def C121 : Ct := ⟨121, g121, fun k x => VF.spec_l4Day k x.1⟩
def h121 : HT := .leaf
noncomputable def e121 : List Ct := [C46, C47, C120]
theorem k121 (k : Nat) (x : g121.In) : evFn tt e121 k Try.f121 [0] h121 g121 x = C121.run k x := by kernel_rfl
theorem S121 : SoundC Try.prog C121 := sndK (fn := Try.f121) ttOk (eC S46 (eC S47 (eC S120 eN))) (by kernel_rfl) (by kernel_rfl) (by kernel_rfl) (by kernel_rfl) k121
def g93 : Sg := ⟨[(.pts, c0), (.imm, (.int .i64))], [(.imm, c2)]⟩
noncomputable def C93 : Ct := ⟨93, g93, fun k x => VF.spec_l36Event k x.1 x.2.1⟩
def h93 : HT := (.n .leaf (.n .leaf (.j [(0, .pp [.sl (.int .u8), .int .i64, .int .i64]), (4, .var [.int .i64, .int .i64, .int .i64, .str, .int .i64, .int .i64, .int .i64]), (5, .var [.int .i64, .int .i64, .int .i64, .str, .int .i64, .int .i64, .int .i64])] .leaf .leaf)))
noncomputable def e93 : List Ct := [C47, C94, C119, C120, C121]
theorem k93 (k : Nat) (x : g93.In) : evFn tt e93 k Try.f93 [0, 1] h93 g93 x = C93.run k x := by kernel_rfl
theorem S93 : SoundC Try.prog C93 := sndK (fn := Try.f93) ttOk (eC S47 (eC S94 (eC S119 (eC S120 (eC S121 eN))))) (by kernel_rfl) (by kernel_rfl) (by kernel_rfl) (by kernel_rfl) k93
def g67 : Sg := ⟨[(.pts, c0)], [(.own true, (.sl c2))]⟩
noncomputable def C67 : Ct := ⟨67, g67, fun k x => VF.spec_l36Events k x.1⟩
def h67 : HT := (.n .leaf (.n .leaf (.j [(0, .pp [.sl (.int .u8), .int .i64, .int .i64]), (3, .one (.row true c2))] (.n .leaf (.l [(0, .pp [.sl (.int .u8), .int .i64, .int .i64]), (3, .one (.row true c2)), (4, .one (.int .i64))] (.n .leaf (.n (.n .leaf (.n (.j [(0, .pp [.sl (.int .u8), .int .i64, .int .i64]), (3, .one (.row true c2)), (4, .one (.int .i64)), (5, .var [.int .i64, .int .i64, .int .i64, .str, .int .i64, .int .i64, .int .i64]), (25, .one (.bool))] .leaf .leaf) .leaf)) .leaf)))) .leaf)))
noncomputable def e67 : List Ct := [C46, C47, C93, C94]
theorem k67 (k : Nat) (x : g67.In) : evFn tt e67 k Try.f67 [0] h67 g67 x = C67.run k x := by kernel_rfl
theorem S67 : SoundC Try.prog C67 := sndK (fn := Try.f67) ttOk (eC S46 (eC S47 (eC S93 (eC S94 eN)))) (by kernel_rfl) (by kernel_rfl) (by kernel_rfl) (by kernel_rfl) k67
def g32 : Sg := ⟨[(.pts, c0)], [(.own true, (.sl c2))]⟩
noncomputable def C32 : Ct := ⟨32, g32, fun k x => VF.spec_l37Events k x.1⟩
def h32 : HT := (.n .leaf (.n .leaf (.n .leaf (.j [(0, .pp [.sl (.int .u8), .int .i64, .int .i64]), (4, .one (.row true c2))] (.n .leaf (.l [(0, .pp [.sl (.int .u8), .int .i64, .int .i64]), (3, .one (.row true c2)), (4, .one (.row true c2)), (5, .one (.int .i64))] (.n .leaf (.n (.n .leaf (.n .leaf (.j [(0, .pp [.sl (.int .u8), .int .i64, .int .i64]), (3, .one (.row true c2)), (4, .one (.row true c2)), (5, .one (.int .i64))] .leaf .leaf))) .leaf)))) .leaf))))
noncomputable def e32 : List Ct := [C46, C47, C67]
theorem k32 (k : Nat) (x : g32.In) : evFn tt e32 k Try.f32 [0] h32 g32 x = C32.run k x := by kernel_rfl
theorem S32 : SoundC Try.prog C32 := sndK (fn := Try.f32) ttOk (eC S46 (eC S47 (eC S67 eN))) (by kernel_rfl) (by kernel_rfl) (by kernel_rfl) (by kernel_rfl) k32
def g33 : Sg := ⟨[(.imm, (.sl (.int .u8)))], [(.pts, c0)]⟩
noncomputable def C33 : Ct := ⟨33, g33, fun k x => VF.spec_l1New k x.1⟩
def h33 : HT := (.n .leaf (.n .leaf (.j [(3, .one (.int .i64))] (.n .leaf (.l [(3, .one (.int .i64)), (4, .one (.int .i64))] .leaf)) .leaf)))
noncomputable def e33 : List Ct := []
theorem k33 (k : Nat) (x : g33.In) : evFn tt e33 k Try.f33 [0] h33 g33 x = C33.run k x := by kernel_rfl
theorem S33 : SoundC Try.prog C33 := sndK (fn := Try.f33) ttOk eN (by kernel_rfl) (by kernel_rfl) (by kernel_rfl) (by kernel_rfl) k33
def g7 : Sg := ⟨[(.imm, (.sl (.int .u8)))], [(.own true, (.sl c2))]⟩
noncomputable def C7 : Ct := ⟨7, g7, fun k x => VF.spec_DrawBooksOf k x.1⟩
def h7 : HT := .leaf
noncomputable def e7 : List Ct := [C32, C33]
theorem k7 (k : Nat) (x : g7.In) : evFn tt e7 k Try.f7 [0] h7 g7 x = C7.run k x := by kernel_rfl
theorem S7 : SoundC Try.prog C7 := sndK (fn := Try.f7) ttOk (eC S32 (eC S33 eN)) (by kernel_rfl) (by kernel_rfl) (by kernel_rfl) (by kernel_rfl) k7
def g50 : Sg := ⟨[(.imm, .str)], [(.imm, .bool)]⟩
noncomputable def C50 : Ct := ⟨50, g50, fun k x => VF.impl_IsCode k x.1⟩
def h50 : HT := (.n .leaf (.j [] (.n .leaf (.l [(3, .one (.int .i64))] (.n .leaf (.j [(3, .one (.int .i64))] (.j [(3, .one (.int .i64)), (4, .one (.bool))] .leaf .leaf) .leaf)))) .leaf))
noncomputable def e50 : List Ct := []
theorem k50 (k : Nat) (x : g50.In) : evFn tt e50 k Try.f50 [0] h50 g50 x = C50.run k x := by kernel_rfl
theorem S50 : SoundC Try.prog C50 := sndK (fn := Try.f50) ttOk eN (by kernel_rfl) (by kernel_rfl) (by kernel_rfl) (by kernel_rfl) k50
def g51 : Sg := ⟨[(.imm, (.int .i64)), (.imm, (.int .i64)), (.imm, (.int .i64))], [(.imm, .bool)]⟩
noncomputable def C51 : Ct := ⟨51, g51, fun k x => VF.impl_in k x.1 x.2.1 x.2.2.1⟩
def h51 : HT := .leaf
noncomputable def e51 : List Ct := []
theorem k51 (k : Nat) (x : g51.In) : evFn tt e51 k Try.f51 [0, 1, 2] h51 g51 x = C51.run k x := by kernel_rfl
theorem S51 : SoundC Try.prog C51 := sndK (fn := Try.f51) ttOk eN (by kernel_rfl) (by kernel_rfl) (by kernel_rfl) (by kernel_rfl) k51
def g37 : Sg := ⟨[(.imm, c2)], [(.imm, .bool)]⟩
noncomputable def C37 : Ct := ⟨37, g37, fun k x => VF.impl_IsEvent k x.1⟩
def h37 : HT := (.n .leaf (.j [(1, .var [.int .i64, .int .i64, .int .i64, .str, .int .i64, .int .i64, .int .i64])] .leaf (.n (.n .leaf (.j [(1, .var [.int .i64, .int .i64, .int .i64, .str, .int .i64, .int .i64, .int .i64]), (20, .one (.int .i64)), (21, .one (.bool))] .leaf .leaf)) .leaf)))
noncomputable def e37 : List Ct := [C50, C51]
theorem k37 (k : Nat) (x : g37.In) : evFn tt e37 k Try.f37 [0] h37 g37 x = C37.run k x := by kernel_rfl
theorem S37 : SoundC Try.prog C37 := sndK (fn := Try.f37) ttOk (eC S50 (eC S51 eN)) (by kernel_rfl) (by kernel_rfl) (by kernel_rfl) (by kernel_rfl) k37
def g128 : Sg := ⟨[(.imm, (.int .i64))], [(.imm, .bool)]⟩
noncomputable def C128 : Ct := ⟨128, g128, fun k x => VF.cmp_isNaN_int k x.1⟩
def h128 : HT := .leaf
noncomputable def e128 : List Ct := []
theorem k128 (k : Nat) (x : g128.In) : evFn tt e128 k Try.f128 [0] h128 g128 x = C128.run k x := by kernel_rfl
theorem S128 : SoundC Try.prog C128 := sndK (fn := Try.f128) ttOk eN (by kernel_rfl) (by kernel_rfl) (by kernel_rfl) (by kernel_rfl) k128
def g103 : Sg := ⟨[(.imm, (.int .i64)), (.imm, (.int .i64))], [(.imm, (.int .i64))]⟩
noncomputable def C103 : Ct := ⟨103, g103, fun k x => VF.cmp_Compare_int k x.1 x.2.1⟩
def h103 : HT := .leaf
noncomputable def e103 : List Ct := [C128]
theorem k103 (k : Nat) (x : g103.In) : evFn tt e103 k Try.f103 [0, 1] h103 g103 x = C103.run k x := by kernel_rfl
theorem S103 : SoundC Try.prog C103 := sndK (fn := Try.f103) ttOk (eC S128 eN) (by kernel_rfl) (by kernel_rfl) (by kernel_rfl) (by kernel_rfl) k103
def g71 : Sg := ⟨[(.imm, (.sl (.int .i64))), (.imm, (.sl (.int .i64)))], [(.imm, (.int .i64))]⟩
noncomputable def C71 : Ct := ⟨71, g71, fun k x => VF.slices_Compare_int_int k x.1 x.2.1⟩
def h71 : HT := (.n .leaf (.j [] (.n .leaf (.l [(9, .one (.sl (.int .i64))), (10, .one (.int .i64)), (11, .one (.int .i64))] .leaf)) .leaf))
noncomputable def e71 : List Ct := [C103]
theorem k71 (k : Nat) (x : g71.In) : evFn tt e71 k Try.f71 [0, 1] h71 g71 x = C71.run k x := by kernel_rfl
theorem S71 : SoundC Try.prog C71 := sndK (fn := Try.f71) ttOk (eC S103 eN) (by kernel_rfl) (by kernel_rfl) (by kernel_rfl) (by kernel_rfl) k71
def g39 : Sg := ⟨[(.imm, c2), (.imm, c2)], [(.imm, (.int .i64))]⟩
noncomputable def C39 : Ct := ⟨39, g39, fun k x => VF.impl_compareEvents k x.1 x.2.1⟩
def h39 : HT := .leaf
noncomputable def e39 : List Ct := [C71]
theorem k39 (k : Nat) (x : g39.In) : evFn tt e39 k Try.f39 [0, 1] h39 g39 x = C39.run k x := by kernel_rfl
theorem S39 : SoundC Try.prog C39 := sndK (fn := Try.f39) ttOk (eC S71 eN) (by kernel_rfl) (by kernel_rfl) (by kernel_rfl) (by kernel_rfl) k39
def g101 : Sg := ⟨[(.mut, (.sl c2)), (.imm, (.int .i64)), (.imm, (.int .i64)), (.fn 39, .unit)], []⟩
noncomputable def C101 : Ct := ⟨101, g101, fun k x => VF.slices_insertionSortCmpFunc_impl_Event k x.1 x.2.1 x.2.2.1⟩
def h101 : HT := (.n .leaf (.l [(0, .pm (.sl c2)), (8, .one (.int .i64))] (.n .leaf (.j [(0, .pm (.sl c2)), (8, .one (.int .i64))] (.n .leaf (.l [(0, .pm (.sl c2)), (8, .one (.int .i64)), (9, .one (.int .i64))] .leaf)) .leaf))))
noncomputable def e101 : List Ct := [C39]
theorem k101 (k : Nat) (x : g101.In) : evFn tt e101 k Try.f101 [0, 1, 2, 3] h101 g101 x = C101.run k x := by kernel_rfl
theorem S101 : SoundC Try.prog C101 := sndK (fn := Try.f101) ttOk (eC S39 eN) (by kernel_rfl) (by kernel_rfl) (by kernel_rfl) (by kernel_rfl) k101
def g146 : Sg := ⟨[(.mut, (.sl c2)), (.imm, (.int .i64)), (.imm, (.int .i64)), (.imm, (.int .i64)), (.fn 39, .unit)], []⟩
noncomputable def C146 : Ct := ⟨146, g146, fun k x => VF.slices_swapRangeCmpFunc_impl_Event k x.1 x.2.1 x.2.2.1 x.2.2.2.1⟩
def h146 : HT := (.n .leaf (.l [(0, .pm (.sl c2)), (10, .one (.int .i64))] .leaf))
noncomputable def e146 : List Ct := [C39]
theorem k146 (k : Nat) (x : g146.In) : evFn tt e146 k Try.f146 [0, 1, 2, 3, 4] h146 g146 x = C146.run k x := by kernel_rfl
theorem S146 : SoundC Try.prog C146 := sndK (fn := Try.f146) ttOk (eC S39 eN) (by kernel_rfl) (by kernel_rfl) (by kernel_rfl) (by kernel_rfl) k146
def g127 : Sg := ⟨[(.mut, (.sl c2)), (.imm, (.int .i64)), (.imm, (.int .i64)), (.imm, (.int .i64)), (.fn 39, .unit)], []⟩
noncomputable def C127 : Ct := ⟨127, g127, fun k x => VF.slices_rotateCmpFunc_impl_Event k x.1 x.2.1 x.2.2.1 x.2.2.2.1⟩
def h127 : HT := (.n .leaf (.n .leaf (.j [(0, .pm (.sl c2)), (10, .one (.int .i64))] (.l [(0, .pm (.sl c2)), (10, .one (.int .i64)), (11, .one (.int .i64))] .leaf) .leaf)))
noncomputable def e127 : List Ct := [C39, C146]
theorem k127 (k : Nat) (x : g127.In) : evFn tt e127 k Try.f127 [0, 1, 2, 3, 4] h127 g127 x = C127.run k x := by kernel_rfl
theorem S127 : SoundC Try.prog C127 := sndK (fn := Try.f127) ttOk (eC S39 (eC S146 eN)) (by kernel_rfl) (by kernel_rfl) (by kernel_rfl) (by kernel_rfl) k127
def g102 : Sg := ⟨[(.mut, (.sl c2)), (.imm, (.int .i64)), (.imm, (.int .i64)), (.imm, (.int .i64)), (.fn 39, .unit)], []⟩
noncomputable def C102 : Ct := ⟨102, g102, fun k x => VF.slices_symMergeCmpFunc_impl_Event k x.1 x.2.1 x.2.2.1 x.2.2.2.1⟩
def h102 : HT := (.j [(0, .pm (.sl c2))] (.n .leaf (.n (.n .leaf (.n .leaf (.j [(0, .pm (.sl c2)), (10, .one (.int .i64))] (.l [(0, .pm (.sl c2)), (10, .one (.int .i64)), (11, .one (.int .i64))] .leaf) (.j [(0, .pm (.sl c2))] (.n .leaf (.l [(0, .pm (.sl c2)), (10, .one (.int .i64)), (13, .one (.int .i64))] .leaf)) .leaf)))) .leaf)) (.j [(0, .pm (.sl c2))] (.n .leaf (.n (.n .leaf (.n .leaf (.j [(0, .pm (.sl c2)), (14, .one (.int .i64))] (.l [(0, .pm (.sl c2)), (14, .one (.int .i64)), (15, .one (.int .i64))] .leaf) (.j [(0, .pm (.sl c2))] (.n .leaf (.l [(0, .pm (.sl c2)), (14, .one (.int .i64)), (17, .one (.int .i64))] .leaf)) .leaf)))) .leaf)) (.n .leaf (.n .leaf (.n .leaf (.j [(0, .pm (.sl c2)), (18, .one (.int .i64)), (19, .one (.int .i64)), (20, .one (.int .i64)), (21, .one (.int .i64))] .leaf (.n .leaf (.j [(0, .pm (.sl c2)), (18, .one (.int .i64)), (19, .one (.int .i64)), (20, .one (.int .i64))] (.l [(0, .pm (.sl c2)), (18, .one (.int .i64)), (19, .one (.int .i64)), (20, .one (.int .i64)), (21, .one (.int .i64)), (22, .one (.int .i64))] .leaf) (.n .leaf (.j [(0, .pm (.sl c2)), (18, .one (.int .i64)), (20, .one (.int .i64)), (24, .one (.int .i64))] .leaf (.j [(0, .pm (.sl c2)), (18, .one (.int .i64)), (24, .one (.int .i64))] .leaf .leaf)))))))))))
noncomputable def e102 : List Ct := [C39, C127]
theorem k102 (n k : Nat) (x : g102.In) : evFn tt (⟨102, g102, fun k x => VF.slices_symMergeCmpFunc_impl_Event.rec n k x.1 x.2.1 x.2.2.1 x.2.2.2.1⟩ :: e102) k Try.f102 [0, 1, 2, 3, 4] h102 g102 x = VF.slices_symMergeCmpFunc_impl_Event.rec (n + 1) k x.1 x.2.1 x.2.2.1 x.2.2.2.1 := by kernel_rfl
theorem S102 : SoundC Try.prog C102 := sndRec (fn := Try.f102) (F := fun n k (x : g102.In) => VF.slices_symMergeCmpFunc_impl_Event.rec n k x.1 x.2.1 x.2.2.1 x.2.2.2.1) ttOk (eC S39 (eC S127 eN)) (by kernel_rfl) (by kernel_rfl) (by kernel_rfl) (by kernel_rfl) (fun _ _ => rfl) k102
def g70 : Sg := ⟨[(.mut, (.sl c2)), (.imm, (.int .i64)), (.fn 39, .unit)], []⟩
noncomputable def C70 : Ct := ⟨70, g70, fun k x => VF.slices_stableCmpFunc_impl_Event k x.1 x.2.1⟩
def h70 : HT := (.n .leaf (.n .leaf (.j [(0, .pm (.sl c2)), (6, .one (.int .i64)), (7, .one (.int .i64))] (.l [(0, .pm (.sl c2)), (6, .one (.int .i64)), (7, .one (.int .i64)), (8, .one (.int .i64))] .leaf) (.n .leaf (.l [(0, .pm (.sl c2)), (6, .one (.int .i64))] (.n .leaf (.n .leaf (.j [(0, .pm (.sl c2)), (6, .one (.int .i64)), (7, .one (.int .i64))] (.l [(0, .pm (.sl c2)), (6, .one (.int .i64)), (7, .one (.int .i64)), (8, .one (.int .i64))] .leaf) .leaf))))))))
noncomputable def e70 : List Ct := [C39, C101, C102]
theorem k70 (k : Nat) (x : g70.In) : evFn tt e70 k Try.f70 [0, 1, 2] h70 g70 x = C70.run k x := by kernel_rfl
theorem S70 : SoundC Try.prog C70 := sndK (fn := Try.f70) ttOk (eC S39 (eC S101 (eC S102 eN))) (by kernel_rfl) (by kernel_rfl) (by kernel_rfl) (by kernel_rfl) k70
def g38 : Sg := ⟨[(.mut, (.sl c2)), (.fn 39, .unit)], []⟩
noncomputable def C38 : Ct := ⟨38, g38, fun k x => VF.slices_SortStableFunc_impl_Event_impl_Event k x.1⟩
def h38 : HT := .leaf
noncomputable def e38 : List Ct := [C39, C70]
theorem k38 (k : Nat) (x : g38.In) : evFn tt e38 k Try.f38 [0, 1] h38 g38 x = C38.run k x := by kernel_rfl
theorem S38 : SoundC Try.prog C38 := sndK (fn := Try.f38) ttOk (eC S39 (eC S70 eN)) (by kernel_rfl) (by kernel_rfl) (by kernel_rfl) (by kernel_rfl) k38
def g13 : Sg := ⟨[(.imm, (.sl c2))], [(.own true, (.sl c2))]⟩
noncomputable def C13 : Ct := ⟨13, g13, fun k x => VF.impl_SortEvents k x.1⟩
def h13 : HT := (.n .leaf (.n .leaf (.n .leaf (.n .leaf (.j [(3, .one (.row true c2)), (4, .one (.row true c2))] (.n .leaf (.l [(3, .one (.row true c2)), (4, .one (.row true c2)), (16, .one (.sl c2)), (17, .one (.int .i64)), (18, .one (.int .i64))] .leaf)) (.n .leaf (.n .leaf (.j [(3, .one (.row true c2))] (.n .leaf (.l [(3, .one (.row true c2)), (7, .one (.map (.int .i64) .bool)), (32, .one (.row true c2)), (33, .one (.int .i64)), (34, .one (.int .i64))] .leaf)) .leaf))))))))
noncomputable def e13 : List Ct := [C37, C38, C39]
theorem k13 (k : Nat) (x : g13.In) : evFn tt e13 k Try.f13 [0] h13 g13 x = C13.run k x := by kernel_rfl
theorem S13 : SoundC Try.prog C13 := sndK (fn := Try.f13) ttOk (eC S37 (eC S38 (eC S39 eN))) (by kernel_rfl) (by kernel_rfl) (by kernel_rfl) (by kernel_rfl) k13
def g72 : Sg := ⟨[(.imm, (.sl c1))], [(.imm, .bool)]⟩
noncomputable def C72 : Ct := ⟨72, g72, fun k x => VF.impl_AreLayers k x.1⟩
def h72 : HT := (.n .leaf (.j [] (.n .leaf (.l [(5, .one (.sl c1)), (6, .one (.int .i64)), (7, .one (.int .i64))] (.n .leaf (.n .leaf (.j [(5, .one (.sl c1)), (6, .one (.int .i64)), (7, .one (.int .i64))] .leaf .leaf))))) .leaf))
noncomputable def e72 : List Ct := [C51]
theorem k72 (k : Nat) (x : g72.In) : evFn tt e72 k Try.f72 [0] h72 g72 x = C72.run k x := by kernel_rfl
theorem S72 : SoundC Try.prog C72 := sndK (fn := Try.f72) ttOk (eC S51 eN) (by kernel_rfl) (by kernel_rfl) (by kernel_rfl) (by kernel_rfl) k72
def g104 : Sg := ⟨[(.imm, (.sl c3))], [(.imm, .bool)]⟩
noncomputable def C104 : Ct := ⟨104, g104, fun k x => VF.impl_AreEntries k x.1⟩
def h104 : HT := (.n .leaf (.n .leaf (.j [(3, .one (.int .i64))] (.n .leaf (.l [(3, .one (.int .i64)), (6, .one (.sl c3)), (7, .one (.int .i64)), (8, .one (.int .i64))] .leaf)) .leaf)))
noncomputable def e104 : List Ct := [C50, C51]
theorem k104 (k : Nat) (x : g104.In) : evFn tt e104 k Try.f104 [0] h104 g104 x = C104.run k x := by kernel_rfl
theorem S104 : SoundC Try.prog C104 := sndK (fn := Try.f104) ttOk (eC S50 (eC S51 eN)) (by kernel_rfl) (by kernel_rfl) (by kernel_rfl) (by kernel_rfl) k104
def g73 : Sg := ⟨[(.imm, (.sl c4))], [(.imm, .bool)]⟩
noncomputable def C73 : Ct := ⟨73, g73, fun k x => VF.impl_AreDocuments k x.1⟩
def h73 : HT := (.n .leaf (.j [] (.n .leaf (.l [(5, .one (.sl c4)), (6, .one (.int .i64)), (7, .one (.int .i64))] .leaf)) .leaf))
noncomputable def e73 : List Ct := [C51, C104]
theorem k73 (k : Nat) (x : g73.In) : evFn tt e73 k Try.f73 [0] h73 g73 x = C73.run k x := by kernel_rfl
theorem S73 : SoundC Try.prog C73 := sndK (fn := Try.f73) ttOk (eC S51 (eC S104 eN)) (by kernel_rfl) (by kernel_rfl) (by kernel_rfl) (by kernel_rfl) k73
def g40 : Sg := ⟨[(.imm, c6)], [(.imm, .bool)]⟩
noncomputable def C40 : Ct := ⟨40, g40, fun k x => VF.impl_AreBooks k x.1⟩
def h40 : HT := (.n .leaf (.j [(1, .var [.sl c5, .int .i64, .sl c4])] (.n .leaf (.l [(1, .var [.sl c5, .int .i64, .sl c4]), (8, .one (.sl c5)), (9, .one (.int .i64)), (10, .one (.int .i64))] (.n .leaf (.n .leaf (.j [(1, .var [.sl c5, .int .i64, .sl c4]), (8, .one (.sl c5)), (9, .one (.int .i64)), (10, .one (.int .i64))] (.n .leaf (.j [(1, .var [.sl c5, .int .i64, .sl c4]), (4, .var [.str, .sl (.int .i64), .sl c1]), (8, .one (.sl c5)), (9, .one (.int .i64)), (10, .one (.int .i64))] .leaf (.n .leaf (.l [(1, .var [.sl c5, .int .i64, .sl c4]), (8, .one (.sl c5)), (9, .one (.int .i64)), (10, .one (.int .i64)), (51, .one (.sl (.int .i64))), (52, .one (.int .i64)), (53, .one (.int .i64))] .leaf)))) .leaf))))) .leaf))
noncomputable def e40 : List Ct := [C50, C51, C72, C73]
theorem k40 (k : Nat) (x : g40.In) : evFn tt e40 k Try.f40 [0] h40 g40 x = C40.run k x := by kernel_rfl
theorem S40 : SoundC Try.prog C40 := sndK (fn := Try.f40) ttOk (eC S50 (eC S51 (eC S72 (eC S73 eN)))) (by kernel_rfl) (by kernel_rfl) (by kernel_rfl) (by kernel_rfl) k40
def g95 : Sg := ⟨[(.imm, (.sl c4))], [(.own true, (.sl c4))]⟩
noncomputable def C95 : Ct := ⟨95, g95, fun k x => VF.impl_copyDocuments k x.1⟩
def h95 : HT := (.n .leaf (.n .leaf (.j [(3, .one (.row true c4))] (.n .leaf (.l [(3, .one (.row true c4)), (7, .one (.sl c4)), (8, .one (.int .i64)), (9, .one (.int .i64))] .leaf)) .leaf)))
noncomputable def e95 : List Ct := []
theorem k95 (k : Nat) (x : g95.In) : evFn tt e95 k Try.f95 [0] h95 g95 x = C95.run k x := by kernel_rfl
theorem S95 : SoundC Try.prog C95 := sndK (fn := Try.f95) ttOk eN (by kernel_rfl) (by kernel_rfl) (by kernel_rfl) (by kernel_rfl) k95
def g96 : Sg := ⟨[(.imm, (.sl c1))], [(.own true, (.sl c1))]⟩
noncomputable def C96 : Ct := ⟨96, g96, fun k x => VF.impl_copyLayers k x.1⟩
def h96 : HT := .leaf
noncomputable def e96 : List Ct := []
theorem k96 (k : Nat) (x : g96.In) : evFn tt e96 k Try.f96 [0] h96 g96 x = C96.run k x := by kernel_rfl
theorem S96 : SoundC Try.prog C96 := sndK (fn := Try.f96) ttOk eN (by kernel_rfl) (by kernel_rfl) (by kernel_rfl) (by kernel_rfl) k96
def g68 : Sg := ⟨[(.imm, c6)], [(.own true, c6)]⟩
noncomputable def C68 : Ct := ⟨68, g68, fun k x => VF.impl_copyBooks k x.1⟩
def h68 : HT := (.n .leaf (.n .leaf (.j [(2, .var [.row true c5, .int .i64, .row true c4]), (3, .var [.row true c5, .int .i64, .row true c4])] (.n .leaf (.l [(2, .var [.row true c5, .int .i64, .row true c4]), (3, .var [.row true c5, .int .i64, .row true c4]), (13, .one (.sl c5)), (14, .one (.int .i64)), (15, .one (.int .i64))] .leaf)) .leaf)))
noncomputable def e68 : List Ct := [C95, C96]
theorem k68 (k : Nat) (x : g68.In) : evFn tt e68 k Try.f68 [0] h68 g68 x = C68.run k x := by kernel_rfl
theorem S68 : SoundC Try.prog C68 := sndK (fn := Try.f68) ttOk (eC S95 (eC S96 eN)) (by kernel_rfl) (by kernel_rfl) (by kernel_rfl) (by kernel_rfl) k68
def g122 : Sg := ⟨[(.imm, c6), (.imm, .str)], [(.imm, (.int .i64))]⟩
noncomputable def C122 : Ct := ⟨122, g122, fun k x => VF.impl_shelfOf k x.1 x.2.1⟩
def h122 : HT := (.n .leaf (.j [] (.n .leaf (.l [(8, .one (.sl c5)), (9, .one (.int .i64)), (10, .one (.int .i64))] .leaf)) .leaf))
noncomputable def e122 : List Ct := []
theorem k122 (k : Nat) (x : g122.In) : evFn tt e122 k Try.f122 [0, 1] h122 g122 x = C122.run k x := by kernel_rfl
theorem S122 : SoundC Try.prog C122 := sndK (fn := Try.f122) ttOk eN (by kernel_rfl) (by kernel_rfl) (by kernel_rfl) (by kernel_rfl) k122
def g123 : Sg := ⟨[(.imm, (.sl c1)), (.imm, (.int .i64)), (.imm, (.int .i64))], [(.own true, (.sl c1)), (.imm, .bool)]⟩
noncomputable def C123 : Ct := ⟨123, g123, fun k x => VF.impl_ReceiveLayer k x.1 x.2.1 x.2.2.1⟩
def h123 : HT := .leaf
noncomputable def e123 : List Ct := [C72, C96]
theorem k123 (k : Nat) (x : g123.In) : evFn tt e123 k Try.f123 [0, 1, 2] h123 g123 x = C123.run k x := by kernel_rfl
theorem S123 : SoundC Try.prog C123 := sndK (fn := Try.f123) ttOk (eC S72 (eC S96 eN)) (by kernel_rfl) (by kernel_rfl) (by kernel_rfl) (by kernel_rfl) k123
def g97 : Sg := ⟨[(.ptr, c6), (.imm, c2)], [(.imm, .bool)]⟩
noncomputable def C97 : Ct := ⟨97, g97, fun k x => VF.impl_receive k x.1 x.2.1⟩
def h97 : HT := (.n .leaf (.n .leaf (.j [(0, .pp [.row true c5, .int .i64, .row true c4]), (3, .var [.int .i64, .int .i64, .int .i64, .str, .int .i64, .int .i64, .int .i64]), (5, .one (.int .i64))] (.n .leaf (.n (.n .leaf (.n .leaf (.j [(0, .pp [.row true c5, .int .i64, .row true c4]), (3, .var [.int .i64, .int .i64, .int .i64, .str, .int .i64, .int .i64, .int .i64]), (5, .one (.int .i64))] (.l [(0, .pp [.row true c5, .int .i64, .row true c4]), (3, .var [.int .i64, .int .i64, .int .i64, .str, .int .i64, .int .i64, .int .i64]), (5, .one (.int .i64))] .leaf) .leaf))) .leaf)) .leaf)))
noncomputable def e97 : List Ct := [C122, C123]
theorem k97 (k : Nat) (x : g97.In) : evFn tt e97 k Try.f97 [0, 1] h97 g97 x = C97.run k x := by kernel_rfl
theorem S97 : SoundC Try.prog C97 := sndK (fn := Try.f97) ttOk (eC S122 (eC S123 eN)) (by kernel_rfl) (by kernel_rfl) (by kernel_rfl) (by kernel_rfl) k97
def g124 : Sg := ⟨[(.imm, (.sl c4)), (.imm, (.int .i64)), (.imm, (.sl c3))], [(.own true, (.sl c4)), (.imm, .bool)]⟩
noncomputable def C124 : Ct := ⟨124, g124, fun k x => VF.impl_PostEntries k x.1 x.2.1 x.2.2.1⟩
def h124 : HT := .leaf
noncomputable def e124 : List Ct := [C73, C95]
theorem k124 (k : Nat) (x : g124.In) : evFn tt e124 k Try.f124 [0, 1, 2] h124 g124 x = C124.run k x := by kernel_rfl
theorem S124 : SoundC Try.prog C124 := sndK (fn := Try.f124) ttOk (eC S73 (eC S95 eN)) (by kernel_rfl) (by kernel_rfl) (by kernel_rfl) (by kernel_rfl) k124
def g98 : Sg := ⟨[(.ptr, c6), (.imm, (.int .i64)), (.imm, (.sl c3))], [(.imm, .bool)]⟩
noncomputable def C98 : Ct := ⟨98, g98, fun k x => VF.impl_post k x.1 x.2.1 x.2.2.1⟩
def h98 : HT := (.n .leaf (.n .leaf (.j [(0, .pp [.row true c5, .int .i64, .row true c4]), (7, .one (.row true c3))] (.n .leaf (.l [(0, .pp [.row true c5, .int .i64, .row true c4]), (7, .one (.row true c3)), (13, .one (.sl c3)), (14, .one (.int .i64)), (15, .one (.int .i64))] .leaf)) .leaf)))
noncomputable def e98 : List Ct := [C124]
theorem k98 (k : Nat) (x : g98.In) : evFn tt e98 k Try.f98 [0, 1, 2] h98 g98 x = C98.run k x := by kernel_rfl
theorem S98 : SoundC Try.prog C98 := sndK (fn := Try.f98) ttOk (eC S124 eN) (by kernel_rfl) (by kernel_rfl) (by kernel_rfl) (by kernel_rfl) k98
def g105 : Sg := ⟨[(.imm, c1), (.imm, (.int .i64))], [(.imm, (.int .i64))]⟩
noncomputable def C105 : Ct := ⟨105, g105, fun k x => VF.impl_firstCost k x.1 x.2.1⟩
def h105 : HT := .leaf
noncomputable def e105 : List Ct := []
theorem k105 (k : Nat) (x : g105.In) : evFn tt e105 k Try.f105 [0, 1] h105 g105 x = C105.run k x := by kernel_rfl
theorem S105 : SoundC Try.prog C105 := sndK (fn := Try.f105) ttOk eN (by kernel_rfl) (by kernel_rfl) (by kernel_rfl) (by kernel_rfl) k105
def g145 : Sg := ⟨[(.imm, (.sl c1))], [(.imm, (.int .i64))]⟩
noncomputable def C145 : Ct := ⟨145, g145, fun k x => VF.impl_LeftOf k x.1⟩
def h145 : HT := (.n .leaf (.n .leaf (.n .leaf (.j [(3, .one (.int .i64))] (.n .leaf (.l [(3, .one (.int .i64)), (9, .one (.sl c1)), (10, .one (.int .i64)), (11, .one (.int .i64))] .leaf)) .leaf))))
noncomputable def e145 : List Ct := [C72]
theorem k145 (k : Nat) (x : g145.In) : evFn tt e145 k Try.f145 [0] h145 g145 x = C145.run k x := by kernel_rfl
theorem S145 : SoundC Try.prog C145 := sndK (fn := Try.f145) ttOk (eC S72 eN) (by kernel_rfl) (by kernel_rfl) (by kernel_rfl) (by kernel_rfl) k145
def g125 : Sg := ⟨[(.imm, (.sl c1)), (.imm, (.int .i64))], [(.own true, (.sl c1)), (.imm, (.int .i64)), (.imm, .bool)]⟩
noncomputable def C125 : Ct := ⟨125, g125, fun k x => VF.impl_IssueLayers k x.1 x.2.1⟩
def h125 : HT := (.n .leaf (.j [(1, .one (.int .i64))] .leaf (.n .leaf (.n .leaf (.j [(7, .one (.row true c1)), (8, .one (.int .i64))] (.n .leaf (.l [(1, .one (.int .i64)), (7, .one (.row true c1)), (8, .one (.int .i64)), (25, .one (.int .i64)), (26, .one (.int .i64))] .leaf)) .leaf)))))
noncomputable def e125 : List Ct := [C51, C72, C96, C105, C145]
theorem k125 (k : Nat) (x : g125.In) : evFn tt e125 k Try.f125 [0] h125 g125 x = C125.run k x := by kernel_rfl
theorem S125 : SoundC Try.prog C125 := sndK (fn := Try.f125) ttOk (eC S51 (eC S72 (eC S96 (eC S105 (eC S145 eN))))) (by kernel_rfl) (by kernel_rfl) (by kernel_rfl) (by kernel_rfl) k125
def g99 : Sg := ⟨[(.ptr, c6), (.imm, c2)], [(.imm, (.int .i64)), (.imm, .bool)]⟩
noncomputable def C99 : Ct := ⟨99, g99, fun k x => VF.impl_issue k x.1 x.2.1⟩
def h99 : HT := .leaf
noncomputable def e99 : List Ct := [C122, C125]
theorem k99 (k : Nat) (x : g99.In) : evFn tt e99 k Try.f99 [0, 1] h99 g99 x = C99.run k x := by kernel_rfl
theorem S99 : SoundC Try.prog C99 := sndK (fn := Try.f99) ttOk (eC S122 (eC S125 eN)) (by kernel_rfl) (by kernel_rfl) (by kernel_rfl) (by kernel_rfl) k99
def g126 : Sg := ⟨[(.imm, (.sl c1)), (.imm, (.int .i64)), (.imm, (.int .i64))], [(.own true, (.sl c1)), (.imm, (.int .i64)), (.imm, .bool)]⟩
noncomputable def C126 : Ct := ⟨126, g126, fun k x => VF.impl_AddLate k x.1 x.2.1 x.2.2.1⟩
def h126 : HT := (.n .leaf (.j [] .leaf .leaf))
noncomputable def e126 : List Ct := [C51, C72, C96, C105]
theorem k126 (k : Nat) (x : g126.In) : evFn tt e126 k Try.f126 [0, 1, 2] h126 g126 x = C126.run k x := by kernel_rfl
theorem S126 : SoundC Try.prog C126 := sndK (fn := Try.f126) ttOk (eC S51 (eC S72 (eC S96 (eC S105 eN)))) (by kernel_rfl) (by kernel_rfl) (by kernel_rfl) (by kernel_rfl) k126
def g100 : Sg := ⟨[(.ptr, c6), (.imm, c2)], [(.imm, (.int .i64)), (.imm, (.int .i64))]⟩
noncomputable def C100 : Ct := ⟨100, g100, fun k x => VF.impl_late k x.1 x.2.1⟩
def h100 : HT := (.n .leaf (.n .leaf (.n .leaf (.n .leaf (.n .leaf (.j [(0, .pp [.row true c5, .int .i64, .row true c4]), (3, .var [.int .i64, .int .i64, .int .i64, .str, .int .i64, .int .i64, .int .i64]), (7, .ep 0 1 0 c5), (8, .one (.int .i64))] (.n .leaf (.l [(0, .pp [.row true c5, .int .i64, .row true c4]), (3, .var [.int .i64, .int .i64, .int .i64, .str, .int .i64, .int .i64, .int .i64]), (7, .ep 0 1 0 c5), (8, .one (.int .i64)), (31, .nr 0 1 1 (.int .i64)), (32, .one (.int .i64)), (33, .one (.int .i64))] .leaf)) .leaf))))))
noncomputable def e100 : List Ct := [C122, C126]
theorem k100 (k : Nat) (x : g100.In) : evFn tt e100 k Try.f100 [0, 1] h100 g100 x = C100.run k x := by kernel_rfl
theorem S100 : SoundC Try.prog C100 := sndK (fn := Try.f100) ttOk (eC S122 (eC S126 eN)) (by kernel_rfl) (by kernel_rfl) (by kernel_rfl) (by kernel_rfl) k100
def g69 : Sg := ⟨[(.ptr, c6), (.imm, c2)], [(.imm, (.int .i64))]⟩
noncomputable def C69 : Ct := ⟨69, g69, fun k x => VF.impl_book k x.1 x.2.1⟩
def h69 : HT := (.n .leaf (.n .leaf (.j [(0, .pp [.row true c5, .int .i64, .row true c4]), (5, .one (.bool))] (.n .leaf (.n .leaf (.n .leaf (.n .leaf (.n .leaf (.j [(0, .pp [.row true c5, .int .i64, .row true c4]), (3, .var [.int .i64, .int .i64, .int .i64, .str, .int .i64, .int .i64, .int .i64]), (5, .one (.bool)), (11, .one (.int .i64)), (66, .one (.bool))] .leaf .leaf)))))) .leaf)))
noncomputable def e69 : List Ct := [C97, C98, C99, C100]
theorem k69 (k : Nat) (x : g69.In) : evFn tt e69 k Try.f69 [0, 1] h69 g69 x = C69.run k x := by kernel_rfl
theorem S69 : SoundC Try.prog C69 := sndK (fn := Try.f69) ttOk (eC S97 (eC S98 (eC S99 (eC S100 eN)))) (by kernel_rfl) (by kernel_rfl) (by kernel_rfl) (by kernel_rfl) k69
def g34 : Sg := ⟨[(.imm, c6), (.imm, c2)], [(.own true, c6), (.imm, (.int .i64))]⟩
noncomputable def C34 : Ct := ⟨34, g34, fun k x => VF.impl_BookEvent k x.1 x.2.1⟩
def h34 : HT := (.n .leaf (.n .leaf (.j [(2, .var [.sl c5, .int .i64, .sl c4]), (3, .var [.int .i64, .int .i64, .int .i64, .str, .int .i64, .int .i64, .int .i64]), (4, .var [.row true c5, .int .i64, .row true c4]), (6, .var [.row true c5, .int .i64, .row true c4])] .leaf .leaf)))
noncomputable def e34 : List Ct := [C37, C40, C68, C69]
theorem k34 (k : Nat) (x : g34.In) : evFn tt e34 k Try.f34 [0, 1] h34 g34 x = C34.run k x := by kernel_rfl
theorem S34 : SoundC Try.prog C34 := sndK (fn := Try.f34) ttOk (eC S37 (eC S40 (eC S68 (eC S69 eN)))) (by kernel_rfl) (by kernel_rfl) (by kernel_rfl) (by kernel_rfl) k34
def g8 : Sg := ⟨[(.imm, (.sl c2))], [(.own true, c6), (.own true, (.sl (.int .i64)))]⟩
noncomputable def C8 : Ct := ⟨8, g8, fun k x => VF.impl_BooksOf k x.1⟩
def h8 : HT := (.n .leaf (.n .leaf (.j [(2, .var [.row true c5, .int .i64, .row true c4]), (4, .var [.row true c5, .int .i64, .row true c4]), (5, .one (.row true (.int .i64)))] (.n .leaf (.l [(2, .var [.row true c5, .int .i64, .row true c4]), (4, .var [.row true c5, .int .i64, .row true c4]), (5, .one (.row true (.int .i64))), (13, .one (.row true c2)), (14, .one (.int .i64)), (15, .one (.int .i64))] .leaf)) .leaf)))
noncomputable def e8 : List Ct := [C13, C34]
theorem k8 (k : Nat) (x : g8.In) : evFn tt e8 k Try.f8 [0] h8 g8 x = C8.run k x := by kernel_rfl
theorem S8 : SoundC Try.prog C8 := sndK (fn := Try.f8) ttOk (eC S13 (eC S34 eN)) (by kernel_rfl) (by kernel_rfl) (by kernel_rfl) (by kernel_rfl) k8
def g35 : Sg := ⟨[(.imm, c5), (.imm, c5)], [(.imm, .bool)]⟩
noncomputable def C35 : Ct := ⟨35, g35, fun k x => VF.impl_sameShelf k x.1 x.2.1⟩
def h35 : HT := (.n .leaf (.j [(2, .var [.str, .sl (.int .i64), .sl c1]), (3, .var [.str, .sl (.int .i64), .sl c1])] .leaf (.j [(2, .var [.str, .sl (.int .i64), .sl c1]), (3, .var [.str, .sl (.int .i64), .sl c1])] (.n .leaf (.l [(2, .var [.str, .sl (.int .i64), .sl c1]), (3, .var [.str, .sl (.int .i64), .sl c1]), (32, .one (.int .i64)), (33, .one (.int .i64))] .leaf)) (.j [] (.n .leaf (.l [(2, .var [.str, .sl (.int .i64), .sl c1]), (3, .var [.str, .sl (.int .i64), .sl c1]), (50, .one (.int .i64)), (51, .one (.int .i64))] .leaf)) .leaf))))
noncomputable def e35 : List Ct := []
theorem k35 (k : Nat) (x : g35.In) : evFn tt e35 k Try.f35 [0, 1] h35 g35 x = C35.run k x := by kernel_rfl
theorem S35 : SoundC Try.prog C35 := sndK (fn := Try.f35) ttOk eN (by kernel_rfl) (by kernel_rfl) (by kernel_rfl) (by kernel_rfl) k35
def g36 : Sg := ⟨[(.imm, c4), (.imm, c4)], [(.imm, .bool)]⟩
noncomputable def C36 : Ct := ⟨36, g36, fun k x => VF.impl_sameDocument k x.1 x.2.1⟩
def h36 : HT := (.n .leaf (.j [(2, .var [.int .i64, .int .i64, .sl c3]), (3, .var [.int .i64, .int .i64, .sl c3])] .leaf (.j [] (.n .leaf (.l [(2, .var [.int .i64, .int .i64, .sl c3]), (3, .var [.int .i64, .int .i64, .sl c3]), (29, .one (.int .i64)), (30, .one (.int .i64))] .leaf)) .leaf)))
noncomputable def e36 : List Ct := []
theorem k36 (k : Nat) (x : g36.In) : evFn tt e36 k Try.f36 [0, 1] h36 g36 x = C36.run k x := by kernel_rfl
theorem S36 : SoundC Try.prog C36 := sndK (fn := Try.f36) ttOk eN (by kernel_rfl) (by kernel_rfl) (by kernel_rfl) (by kernel_rfl) k36
def g9 : Sg := ⟨[(.imm, c6), (.imm, c6)], [(.imm, .bool)]⟩
noncomputable def C9 : Ct := ⟨9, g9, fun k x => VF.impl_SameBooks k x.1 x.2.1⟩
def h9 : HT := (.n .leaf (.j [(2, .var [.sl c5, .int .i64, .sl c4]), (3, .var [.sl c5, .int .i64, .sl c4])] .leaf (.j [(2, .var [.sl c5, .int .i64, .sl c4]), (3, .var [.sl c5, .int .i64, .sl c4])] (.n .leaf (.l [(2, .var [.sl c5, .int .i64, .sl c4]), (3, .var [.sl c5, .int .i64, .sl c4]), (32, .one (.int .i64)), (33, .one (.int .i64))] .leaf)) (.j [] (.n .leaf (.l [(2, .var [.sl c5, .int .i64, .sl c4]), (3, .var [.sl c5, .int .i64, .sl c4]), (51, .one (.int .i64)), (52, .one (.int .i64))] .leaf)) .leaf))))
noncomputable def e9 : List Ct := [C35, C36]
theorem k9 (k : Nat) (x : g9.In) : evFn tt e9 k Try.f9 [0, 1] h9 g9 x = C9.run k x := by kernel_rfl
theorem S9 : SoundC Try.prog C9 := sndK (fn := Try.f9) ttOk (eC S35 (eC S36 eN)) (by kernel_rfl) (by kernel_rfl) (by kernel_rfl) (by kernel_rfl) k9
def g10 : Sg := ⟨[(.imm, c6), (.imm, c6)], [(.imm, .bool)]⟩
noncomputable def C10 : Ct := ⟨10, g10, fun k x => VF.spec_SameBooks k x.1 x.2.1⟩
def h10 : HT := (.n .leaf (.j [(2, .var [.sl c5, .int .i64, .sl c4]), (3, .var [.sl c5, .int .i64, .sl c4])] .leaf (.j [(2, .var [.sl c5, .int .i64, .sl c4]), (3, .var [.sl c5, .int .i64, .sl c4])] (.n .leaf (.l [(2, .var [.sl c5, .int .i64, .sl c4]), (3, .var [.sl c5, .int .i64, .sl c4]), (5, .one (.int .i64))] (.n .leaf (.j [(2, .var [.sl c5, .int .i64, .sl c4]), (3, .var [.sl c5, .int .i64, .sl c4]), (5, .one (.int .i64))] (.n .leaf (.n .leaf (.j [(2, .var [.sl c5, .int .i64, .sl c4]), (3, .var [.sl c5, .int .i64, .sl c4]), (5, .one (.int .i64)), (6, .var [.str, .sl (.int .i64), .sl c1]), (7, .var [.str, .sl (.int .i64), .sl c1])] .leaf (.j [(2, .var [.sl c5, .int .i64, .sl c4]), (3, .var [.sl c5, .int .i64, .sl c4]), (5, .one (.int .i64)), (6, .var [.str, .sl (.int .i64), .sl c1]), (7, .var [.str, .sl (.int .i64), .sl c1])] (.n .leaf (.l [(2, .var [.sl c5, .int .i64, .sl c4]), (3, .var [.sl c5, .int .i64, .sl c4]), (5, .one (.int .i64)), (6, .var [.str, .sl (.int .i64), .sl c1]), (7, .var [.str, .sl (.int .i64), .sl c1]), (8, .one (.int .i64))] .leaf)) (.n .leaf (.l [(2, .var [.sl c5, .int .i64, .sl c4]), (3, .var [.sl c5, .int .i64, .sl c4]), (5, .one (.int .i64)), (6, .var [.str, .sl (.int .i64), .sl c1]), (7, .var [.str, .sl (.int .i64), .sl c1]), (9, .one (.int .i64))] .leaf)))))) .leaf)))) (.j [] (.n .leaf (.l [(2, .var [.sl c5, .int .i64, .sl c4]), (3, .var [.sl c5, .int .i64, .sl c4]), (10, .one (.int .i64))] (.n .leaf (.j [(2, .var [.sl c5, .int .i64, .sl c4]), (3, .var [.sl c5, .int .i64, .sl c4]), (10, .one (.int .i64))] (.n .leaf (.n .leaf (.j [(2, .var [.sl c5, .int .i64, .sl c4]), (3, .var [.sl c5, .int .i64, .sl c4]), (10, .one (.int .i64)), (11, .var [.int .i64, .int .i64, .sl c3]), (12, .var [.int .i64, .int .i64, .sl c3])] .leaf (.n .leaf (.l [(2, .var [.sl c5, .int .i64, .sl c4]), (3, .var [.sl c5, .int .i64, .sl c4]), (10, .one (.int .i64)), (11, .var [.int .i64, .int .i64, .sl c3]), (12, .var [.int .i64, .int .i64, .sl c3]), (13, .one (.int .i64))] .leaf))))) .leaf)))) .leaf))))
noncomputable def e10 : List Ct := []
theorem k10 (k : Nat) (x : g10.In) : evFn tt e10 k Try.f10 [0, 1] h10 g10 x = C10.run k x := by kernel_rfl
theorem S10 : SoundC Try.prog C10 := sndK (fn := Try.f10) ttOk eN (by kernel_rfl) (by kernel_rfl) (by kernel_rfl) (by kernel_rfl) k10
def g11 : Sg := ⟨[(.imm, (.sl (.int .i64))), (.imm, (.sl (.int .i64)))], [(.imm, .bool)]⟩
noncomputable def C11 : Ct := ⟨11, g11, fun k x => VF.laws_sameInts k x.1 x.2.1⟩
def h11 : HT := (.n .leaf (.n .leaf (.j [] (.n .leaf (.l [(5, .one (.int .i64))] .leaf)) .leaf)))
noncomputable def e11 : List Ct := []
theorem k11 (k : Nat) (x : g11.In) : evFn tt e11 k Try.f11 [0, 1] h11 g11 x = C11.run k x := by kernel_rfl
theorem S11 : SoundC Try.prog C11 := sndK (fn := Try.f11) ttOk eN (by kernel_rfl) (by kernel_rfl) (by kernel_rfl) (by kernel_rfl) k11
def g12 : Sg := ⟨[(.imm, (.sl c2)), (.imm, (.sl c2))], [(.imm, .bool)]⟩
noncomputable def C12 : Ct := ⟨12, g12, fun k x => VF.laws_sameEvents k x.1 x.2.1⟩
def h12 : HT := (.n .leaf (.n .leaf (.j [] (.n .leaf (.l [(5, .one (.int .i64))] .leaf)) .leaf)))
noncomputable def e12 : List Ct := []
theorem k12 (k : Nat) (x : g12.In) : evFn tt e12 k Try.f12 [0, 1] h12 g12 x = C12.run k x := by kernel_rfl
theorem S12 : SoundC Try.prog C12 := sndK (fn := Try.f12) ttOk eN (by kernel_rfl) (by kernel_rfl) (by kernel_rfl) (by kernel_rfl) k12
def g41 : Sg := ⟨[(.imm, (.sl c4)), (.imm, .str), (.imm, (.int .i64))], [(.imm, (.int .i64))]⟩
noncomputable def C41 : Ct := ⟨41, g41, fun k x => VF.impl_BalanceOf k x.1 x.2.1 x.2.2.1⟩
def h41 : HT := (.n .leaf (.n .leaf (.n .leaf (.j [(7, .one (.int .i64))] (.n .leaf (.l [(7, .one (.int .i64)), (15, .one (.sl c4)), (16, .one (.int .i64)), (17, .one (.int .i64))] (.n .leaf (.n .leaf (.j [(7, .one (.int .i64)), (15, .one (.sl c4)), (16, .one (.int .i64)), (17, .one (.int .i64))] (.n .leaf (.n .leaf (.l [(7, .one (.int .i64)), (9, .var [.int .i64, .int .i64, .sl c3]), (15, .one (.sl c4)), (16, .one (.int .i64)), (17, .one (.int .i64)), (22, .one (.sl c3)), (23, .one (.int .i64)), (24, .one (.int .i64))] .leaf))) .leaf))))) .leaf))))
noncomputable def e41 : List Ct := [C73]
theorem k41 (k : Nat) (x : g41.In) : evFn tt e41 k Try.f41 [0, 1, 2] h41 g41 x = C41.run k x := by kernel_rfl
theorem S41 : SoundC Try.prog C41 := sndK (fn := Try.f41) ttOk (eC S73 eN) (by kernel_rfl) (by kernel_rfl) (by kernel_rfl) (by kernel_rfl) k41
def g74 : Sg := ⟨[(.imm, (.sl c1))], [(.imm, (.int .i64))]⟩
noncomputable def C74 : Ct := ⟨74, g74, fun k x => VF.impl_WorthOf k x.1⟩
def h74 : HT := (.n .leaf (.n .leaf (.n .leaf (.j [(3, .one (.int .i64))] (.n .leaf (.l [(3, .one (.int .i64)), (9, .one (.sl c1)), (10, .one (.int .i64)), (11, .one (.int .i64))] .leaf)) .leaf))))
noncomputable def e74 : List Ct := [C72, C105]
theorem k74 (k : Nat) (x : g74.In) : evFn tt e74 k Try.f74 [0] h74 g74 x = C74.run k x := by kernel_rfl
theorem S74 : SoundC Try.prog C74 := sndK (fn := Try.f74) ttOk (eC S72 (eC S105 eN)) (by kernel_rfl) (by kernel_rfl) (by kernel_rfl) (by kernel_rfl) k74
def g42 : Sg := ⟨[(.imm, c6)], [(.imm, (.int .i64))]⟩
noncomputable def C42 : Ct := ⟨42, g42, fun k x => VF.impl_StockWorth k x.1⟩
def h42 : HT := (.n .leaf (.n .leaf (.n .leaf (.j [(3, .one (.int .i64))] (.n .leaf (.l [(3, .one (.int .i64)), (10, .one (.sl c5)), (11, .one (.int .i64)), (12, .one (.int .i64))] .leaf)) .leaf))))
noncomputable def e42 : List Ct := [C40, C74]
theorem k42 (k : Nat) (x : g42.In) : evFn tt e42 k Try.f42 [0] h42 g42 x = C42.run k x := by kernel_rfl
theorem S42 : SoundC Try.prog C42 := sndK (fn := Try.f42) ttOk (eC S40 (eC S74 eN)) (by kernel_rfl) (by kernel_rfl) (by kernel_rfl) (by kernel_rfl) k42
def g14 : Sg := ⟨[(.imm, c6)], [(.imm, .bool)]⟩
noncomputable def C14 : Ct := ⟨14, g14, fun k x => VF.impl_BooksAgree k x.1⟩
def h14 : HT := .leaf
noncomputable def e14 : List Ct := [C40, C41, C42]
theorem k14 (k : Nat) (x : g14.In) : evFn tt e14 k Try.f14 [0] h14 g14 x = C14.run k x := by kernel_rfl
theorem S14 : SoundC Try.prog C14 := sndK (fn := Try.f14) ttOk (eC S40 (eC S41 (eC S42 eN))) (by kernel_rfl) (by kernel_rfl) (by kernel_rfl) (by kernel_rfl) k14
def g77 : Sg := ⟨[(.imm, (.int .i64)), (.imm, (.int .i64)), (.imm, (.int .i64))], [(.imm, .bool)]⟩
noncomputable def C77 : Ct := ⟨77, g77, fun k x => VF.spec_l1In k x.1 x.2.1 x.2.2.1⟩
def h77 : HT := .leaf
noncomputable def e77 : List Ct := []
theorem k77 (k : Nat) (x : g77.In) : evFn tt e77 k Try.f77 [0, 1, 2] h77 g77 x = C77.run k x := by kernel_rfl
theorem S77 : SoundC Try.prog C77 := sndK (fn := Try.f77) ttOk eN (by kernel_rfl) (by kernel_rfl) (by kernel_rfl) (by kernel_rfl) k77
def g75 : Sg := ⟨[(.imm, .str)], [(.imm, .bool)]⟩
noncomputable def C75 : Ct := ⟨75, g75, fun k x => VF.spec_IsCode k x.1⟩
def h75 : HT := (.n .leaf (.j [] (.n .leaf (.l [(3, .one (.int .i64))] (.n .leaf (.j [(3, .one (.int .i64))] (.j [(3, .one (.int .i64)), (4, .one (.bool))] .leaf .leaf) .leaf)))) .leaf))
noncomputable def e75 : List Ct := []
theorem k75 (k : Nat) (x : g75.In) : evFn tt e75 k Try.f75 [0] h75 g75 x = C75.run k x := by kernel_rfl
theorem S75 : SoundC Try.prog C75 := sndK (fn := Try.f75) ttOk eN (by kernel_rfl) (by kernel_rfl) (by kernel_rfl) (by kernel_rfl) k75
def g82 : Sg := ⟨[(.imm, (.sl c3))], [(.imm, .bool)]⟩
noncomputable def C82 : Ct := ⟨82, g82, fun k x => VF.spec_AreEntries k x.1⟩
def h82 : HT := (.n .leaf (.n .leaf (.j [(3, .one (.int .i64))] (.n .leaf (.l [(3, .one (.int .i64)), (4, .one (.int .i64))] (.n .leaf (.n (.j [(3, .one (.int .i64)), (4, .one (.int .i64))] .leaf .leaf) .leaf)))) .leaf)))
noncomputable def e82 : List Ct := [C75, C77]
theorem k82 (k : Nat) (x : g82.In) : evFn tt e82 k Try.f82 [0] h82 g82 x = C82.run k x := by kernel_rfl
theorem S82 : SoundC Try.prog C82 := sndK (fn := Try.f82) ttOk (eC S75 (eC S77 eN)) (by kernel_rfl) (by kernel_rfl) (by kernel_rfl) (by kernel_rfl) k82
def g53 : Sg := ⟨[(.imm, (.sl c4))], [(.imm, .bool)]⟩
noncomputable def C53 : Ct := ⟨53, g53, fun k x => VF.spec_AreDocuments k x.1⟩
def h53 : HT := (.n .leaf (.j [] (.n .leaf (.l [(3, .one (.int .i64))] .leaf)) .leaf))
noncomputable def e53 : List Ct := [C77, C82]
theorem k53 (k : Nat) (x : g53.In) : evFn tt e53 k Try.f53 [0] h53 g53 x = C53.run k x := by kernel_rfl
theorem S53 : SoundC Try.prog C53 := sndK (fn := Try.f53) ttOk (eC S77 (eC S82 eN)) (by kernel_rfl) (by kernel_rfl) (by kernel_rfl) (by kernel_rfl) k53
def g76 : Sg := ⟨[(.imm, (.sl c1))], [(.imm, .bool)]⟩
noncomputable def C76 : Ct := ⟨76, g76, fun k x => VF.spec_AreLayers k x.1⟩
def h76 : HT := (.n .leaf (.j [] (.n .leaf (.l [(3, .one (.int .i64))] (.n .leaf (.j [(3, .one (.int .i64))] .leaf .leaf)))) .leaf))
noncomputable def e76 : List Ct := [C77]
theorem k76 (k : Nat) (x : g76.In) : evFn tt e76 k Try.f76 [0] h76 g76 x = C76.run k x := by kernel_rfl
theorem S76 : SoundC Try.prog C76 := sndK (fn := Try.f76) ttOk (eC S77 eN) (by kernel_rfl) (by kernel_rfl) (by kernel_rfl) (by kernel_rfl) k76
def g43 : Sg := ⟨[(.imm, c6)], [(.imm, .bool)]⟩
noncomputable def C43 : Ct := ⟨43, g43, fun k x => VF.spec_AreBooks k x.1⟩
def h43 : HT := (.n .leaf (.j [(1, .var [.sl c5, .int .i64, .sl c4])] (.n .leaf (.l [(1, .var [.sl c5, .int .i64, .sl c4]), (3, .one (.int .i64))] (.n .leaf (.j [(1, .var [.sl c5, .int .i64, .sl c4]), (3, .one (.int .i64))] (.n .leaf (.j [(1, .var [.sl c5, .int .i64, .sl c4]), (3, .one (.int .i64)), (4, .var [.str, .sl (.int .i64), .sl c1])] .leaf (.n .leaf (.l [(1, .var [.sl c5, .int .i64, .sl c4]), (3, .one (.int .i64)), (4, .var [.str, .sl (.int .i64), .sl c1]), (5, .one (.int .i64))] .leaf)))) .leaf)))) .leaf))
noncomputable def e43 : List Ct := [C53, C75, C76, C77]
theorem k43 (k : Nat) (x : g43.In) : evFn tt e43 k Try.f43 [0] h43 g43 x = C43.run k x := by kernel_rfl
theorem S43 : SoundC Try.prog C43 := sndK (fn := Try.f43) ttOk (eC S53 (eC S75 (eC S76 (eC S77 eN)))) (by kernel_rfl) (by kernel_rfl) (by kernel_rfl) (by kernel_rfl) k43
def g44 : Sg := ⟨[(.imm, (.sl c4)), (.imm, .str), (.imm, (.int .i64))], [(.imm, (.int .i64))]⟩
noncomputable def C44 : Ct := ⟨44, g44, fun k x => VF.spec_BalanceOf k x.1 x.2.1 x.2.2.1⟩
def h44 : HT := (.n .leaf (.n .leaf (.j [(7, .one (.int .i64))] (.n .leaf (.l [(7, .one (.int .i64)), (8, .one (.int .i64))] (.n .leaf (.j [(7, .one (.int .i64)), (8, .one (.int .i64))] (.n .leaf (.l [(7, .one (.int .i64)), (8, .one (.int .i64)), (9, .one (.int .i64))] .leaf)) .leaf)))) .leaf)))
noncomputable def e44 : List Ct := [C53]
theorem k44 (k : Nat) (x : g44.In) : evFn tt e44 k Try.f44 [0, 1, 2] h44 g44 x = C44.run k x := by kernel_rfl
theorem S44 : SoundC Try.prog C44 := sndK (fn := Try.f44) ttOk (eC S53 eN) (by kernel_rfl) (by kernel_rfl) (by kernel_rfl) (by kernel_rfl) k44
def g106 : Sg := ⟨[(.imm, c1), (.imm, (.int .i64))], [(.imm, (.int .i64))]⟩
noncomputable def C106 : Ct := ⟨106, g106, fun k x => VF.spec_l31Cost k x.1 x.2.1⟩
def h106 : HT := .leaf
noncomputable def e106 : List Ct := []
theorem k106 (k : Nat) (x : g106.In) : evFn tt e106 k Try.f106 [0, 1] h106 g106 x = C106.run k x := by kernel_rfl
theorem S106 : SoundC Try.prog C106 := sndK (fn := Try.f106) ttOk eN (by kernel_rfl) (by kernel_rfl) (by kernel_rfl) (by kernel_rfl) k106
def g78 : Sg := ⟨[(.imm, (.sl c1))], [(.imm, (.int .i64))]⟩
noncomputable def C78 : Ct := ⟨78, g78, fun k x => VF.spec_WorthOf k x.1⟩
def h78 : HT := (.n .leaf (.n .leaf (.j [(3, .one (.int .i64))] (.n .leaf (.l [(3, .one (.int .i64)), (4, .one (.int .i64))] .leaf)) .leaf)))
noncomputable def e78 : List Ct := [C76, C106]
theorem k78 (k : Nat) (x : g78.In) : evFn tt e78 k Try.f78 [0] h78 g78 x = C78.run k x := by kernel_rfl
theorem S78 : SoundC Try.prog C78 := sndK (fn := Try.f78) ttOk (eC S76 (eC S106 eN)) (by kernel_rfl) (by kernel_rfl) (by kernel_rfl) (by kernel_rfl) k78
def g45 : Sg := ⟨[(.imm, c6)], [(.imm, (.int .i64))]⟩
noncomputable def C45 : Ct := ⟨45, g45, fun k x => VF.spec_StockWorth k x.1⟩
def h45 : HT := (.n .leaf (.n .leaf (.j [(3, .one (.int .i64))] (.n .leaf (.l [(1, .var [.sl c5, .int .i64, .sl c4]), (3, .one (.int .i64)), (4, .one (.int .i64))] .leaf)) .leaf)))
noncomputable def e45 : List Ct := [C43, C78]
theorem k45 (k : Nat) (x : g45.In) : evFn tt e45 k Try.f45 [0] h45 g45 x = C45.run k x := by kernel_rfl
theorem S45 : SoundC Try.prog C45 := sndK (fn := Try.f45) ttOk (eC S43 (eC S78 eN)) (by kernel_rfl) (by kernel_rfl) (by kernel_rfl) (by kernel_rfl) k45
def g15 : Sg := ⟨[(.imm, c6)], [(.imm, .bool)]⟩
noncomputable def C15 : Ct := ⟨15, g15, fun k x => VF.spec_BooksAgree k x.1⟩
def h15 : HT := .leaf
noncomputable def e15 : List Ct := [C43, C44, C45]
theorem k15 (k : Nat) (x : g15.In) : evFn tt e15 k Try.f15 [0] h15 g15 x = C15.run k x := by kernel_rfl
theorem S15 : SoundC Try.prog C15 := sndK (fn := Try.f15) ttOk (eC S43 (eC S44 (eC S45 eN))) (by kernel_rfl) (by kernel_rfl) (by kernel_rfl) (by kernel_rfl) k15
def g3 : Sg := ⟨[(.imm, (.sl (.int .u8)))], [(.imm, .bool)]⟩
noncomputable def C3 : Ct := ⟨3, g3, fun k x => VF.laws_FnArrival k x.1⟩
def h3 : HT := (.n .leaf (.n .leaf (.n .leaf (.n .leaf (.j [(3, .one (.row true c2)), (4, .one (.row true c2))] (.n .leaf (.l [(3, .one (.row true c2)), (4, .one (.row true c2)), (5, .one (.int .i64))] .leaf)) .leaf)))))
noncomputable def e3 : List Ct := [C6, C7, C8, C9, C10, C11, C12, C13, C14, C15]
theorem k3 (k : Nat) (x : g3.In) : evFn tt e3 k Try.f3 [0] h3 g3 x = C3.run k x := by kernel_rfl
theorem S3 : SoundC Try.prog C3 := sndK (fn := Try.f3) ttOk (eC S6 (eC S7 (eC S8 (eC S9 (eC S10 (eC S11 (eC S12 (eC S13 (eC S14 (eC S15 eN)))))))))) (by kernel_rfl) (by kernel_rfl) (by kernel_rfl) (by kernel_rfl) k3
