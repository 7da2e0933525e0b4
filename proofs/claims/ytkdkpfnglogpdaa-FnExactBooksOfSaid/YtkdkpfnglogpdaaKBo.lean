/- The contracts of all functions that the law reaches. -/
import Derived.Test.YtkdkpfnglogpdaaVG3
import Derived.Test.YtkdkpfnglogpdaaKVa2
import Derived.Test.YtkdkpfnglogpdaaProg
set_option linter.unusedVariables false
open Go Go.Proofs Go.Shelf VM
set_option maxRecDepth 100000
abbrev c0 : CK := .pair (.int .i64) (.pair (.int .i64) (.pair (.int .i64) .unit))
abbrev c1 : CK := .pair (.int .i64) (.pair (.int .i64) (.pair (.int .i64) (.pair .str c0)))
abbrev c2 : CK := .pair .str (.pair (.int .i64) .unit)
abbrev c3 : CK := .pair (.int .i64) (.pair (.int .i64) (.pair (.sl c2) .unit))
abbrev c4 : CK := .pair .str (.pair (.sl (.int .i64)) (.pair (.sl c0) .unit))
abbrev c5 : CK := .pair (.sl c4) (.pair (.int .i64) (.pair (.sl c3) .unit))
def tt : List (Nat × TD) := [(3, .val (.int .i64) 8 []), (5, .val (.int .u8) 1 []), (9, .val .str 16 []), (22, .val (.sl (.int .u8)) 1 []), (24, .val (.sl c1) 64 []), (27, .val c1 64 [(0, (.int .i64)), (1, (.int .i64)), (2, (.int .i64)), (3, .str), (4, (.int .i64)), (5, (.int .i64)), (6, (.int .i64))]), (28, .val (.sl c4) 64 []), (29, .val (.sl c3) 40 []), (31, .val c5 56 [(0, (.sl c4)), (1, (.int .i64)), (2, (.sl c3))]), (32, .val (.sl (.int .i64)) 8 []), (42, .val (.sl c2) 24 []), (48, .val (.sl c1) 64 []), (61, .val (.sl c0) 24 []), (63, .val c4 64 [(0, .str), (1, (.sl (.int .i64))), (2, (.sl c0))]), (66, .val c3 40 [(0, (.int .i64)), (1, (.int .i64)), (2, (.sl c2))]), (68, .val c0 24 [(0, (.int .i64)), (1, (.int .i64)), (2, (.int .i64))]), (70, .val c2 24 [(0, .str), (1, (.int .i64))]), (73, .other), (74, .map (.int .i64) .bool), (85, .val c1 64 [(0, (.int .i64)), (1, (.int .i64)), (2, (.int .i64)), (3, .str), (4, (.int .i64)), (5, (.int .i64)), (6, (.int .i64))]), (97, .other), (105, .val (.sl .str) 16 []), (125, .val (.int .u64) 8 [])]
theorem ttOk : TTok Try.prog tt := ttB_ok (by kernel_rfl)
def g50 : Sg := ⟨[(.imm, .str)], [(.imm, .bool)]⟩
noncomputable def C50 : Ct := ⟨50, g50, fun k x => VF.impl_IsCode k x.1⟩
def h50 : HT := (.n .leaf (.j [] (.n .leaf (.l [(3, .one (.int .i64))] (.n .leaf (.j [(3, .one (.int .i64))] (.j [(3, .one (.int .i64)), (4, .one (.bool))] .leaf .leaf) .leaf)))) .leaf))
noncomputable def e50 : List Ct := []
theorem k50 (k : Nat) (x : g50.In) : evFn tt e50 k Try.f50 [0] h50 g50 x = C50.run k x := by kernel_rfl
theorem S50 : SoundC Try.prog C50 := sndK (fn := Try.f50) ttOk eN (by kernel_rfl) (by kernel_rfl) (by kernel_rfl) (by kernel_rfl) k50
def g51 : Sg := ⟨[(.imm, (.int .i64)), (.imm, (.int .i64)), (.imm, (.int .i64))], [(.imm, .bool)]⟩
noncomputable def C51 : Ct := ⟨51, g51, fun k x => VF.impl_in k x.1 x.2.1 x.2.2.1⟩
def h51 : HT := .leaf
noncomputable def e51 : List Ct := []
theorem k51 (k : Nat) (x : g51.In) : evFn tt e51 k Try.f51 [0, 1, 2] h51 g51 x = C51.run k x := by kernel_rfl
theorem S51 : SoundC Try.prog C51 := sndK (fn := Try.f51) ttOk eN (by kernel_rfl) (by kernel_rfl) (by kernel_rfl) (by kernel_rfl) k51
def g37 : Sg := ⟨[(.imm, c1)], [(.imm, .bool)]⟩
noncomputable def C37 : Ct := ⟨37, g37, fun k x => VF.impl_IsEvent k x.1⟩
def h37 : HT := (.n .leaf (.j [(1, .var [.int .i64, .int .i64, .int .i64, .str, .int .i64, .int .i64, .int .i64])] .leaf (.n (.n .leaf (.j [(1, .var [.int .i64, .int .i64, .int .i64, .str, .int .i64, .int .i64, .int .i64]), (20, .one (.int .i64)), (21, .one (.bool))] .leaf .leaf)) .leaf)))
noncomputable def e37 : List Ct := [C50, C51]
theorem k37 (k : Nat) (x : g37.In) : evFn tt e37 k Try.f37 [0] h37 g37 x = C37.run k x := by kernel_rfl
theorem S37 : SoundC Try.prog C37 := sndK (fn := Try.f37) ttOk (eC S50 (eC S51 eN)) (by kernel_rfl) (by kernel_rfl) (by kernel_rfl) (by kernel_rfl) k37
def g128 : Sg := ⟨[(.imm, (.int .i64))], [(.imm, .bool)]⟩
noncomputable def C128 : Ct := ⟨128, g128, fun k x => VF.cmp_isNaN_int k x.1⟩
def h128 : HT := .leaf
noncomputable def e128 : List Ct := []
theorem k128 (k : Nat) (x : g128.In) : evFn tt e128 k Try.f128 [0] h128 g128 x = C128.run k x := by kernel_rfl
theorem S128 : SoundC Try.prog C128 := sndK (fn := Try.f128) ttOk eN (by kernel_rfl) (by kernel_rfl) (by kernel_rfl) (by kernel_rfl) k128
def g103 : Sg := ⟨[(.imm, (.int .i64)), (.imm, (.int .i64))], [(.imm, (.int .i64))]⟩
noncomputable def C103 : Ct := ⟨103, g103, fun k x => VF.cmp_Compare_int k x.1 x.2.1⟩
def h103 : HT := .leaf
noncomputable def e103 : List Ct := [C128]
theorem k103 (k : Nat) (x : g103.In) : evFn tt e103 k Try.f103 [0, 1] h103 g103 x = C103.run k x := by kernel_rfl
theorem S103 : SoundC Try.prog C103 := sndK (fn := Try.f103) ttOk (eC S128 eN) (by kernel_rfl) (by kernel_rfl) (by kernel_rfl) (by kernel_rfl) k103
def g71 : Sg := ⟨[(.imm, (.sl (.int .i64))), (.imm, (.sl (.int .i64)))], [(.imm, (.int .i64))]⟩
noncomputable def C71 : Ct := ⟨71, g71, fun k x => VF.slices_Compare_int_int k x.1 x.2.1⟩
def h71 : HT := (.n .leaf (.j [] (.n .leaf (.l [(9, .one (.sl (.int .i64))), (10, .one (.int .i64)), (11, .one (.int .i64))] .leaf)) .leaf))
noncomputable def e71 : List Ct := [C103]
theorem k71 (k : Nat) (x : g71.In) : evFn tt e71 k Try.f71 [0, 1] h71 g71 x = C71.run k x := by kernel_rfl
theorem S71 : SoundC Try.prog C71 := sndK (fn := Try.f71) ttOk (eC S103 eN) (by kernel_rfl) (by kernel_rfl) (by kernel_rfl) (by kernel_rfl) k71
def g39 : Sg := ⟨[(.imm, c1), (.imm, c1)], [(.imm, (.int .i64))]⟩
noncomputable def C39 : Ct := ⟨39, g39, fun k x => VF.impl_compareEvents k x.1 x.2.1⟩
def h39 : HT := .leaf
noncomputable def e39 : List Ct := [C71]
theorem k39 (k : Nat) (x : g39.In) : evFn tt e39 k Try.f39 [0, 1] h39 g39 x = C39.run k x := by kernel_rfl
theorem S39 : SoundC Try.prog C39 := sndK (fn := Try.f39) ttOk (eC S71 eN) (by kernel_rfl) (by kernel_rfl) (by kernel_rfl) (by kernel_rfl) k39
def g101 : Sg := ⟨[(.mut, (.sl c1)), (.imm, (.int .i64)), (.imm, (.int .i64)), (.fn 39, .unit)], []⟩
noncomputable def C101 : Ct := ⟨101, g101, fun k x => VF.slices_insertionSortCmpFunc_impl_Event k x.1 x.2.1 x.2.2.1⟩
def h101 : HT := (.n .leaf (.l [(0, .pm (.sl c1)), (8, .one (.int .i64))] (.n .leaf (.j [(0, .pm (.sl c1)), (8, .one (.int .i64))] (.n .leaf (.l [(0, .pm (.sl c1)), (8, .one (.int .i64)), (9, .one (.int .i64))] .leaf)) .leaf))))
noncomputable def e101 : List Ct := [C39]
theorem k101 (k : Nat) (x : g101.In) : evFn tt e101 k Try.f101 [0, 1, 2, 3] h101 g101 x = C101.run k x := by kernel_rfl
theorem S101 : SoundC Try.prog C101 := sndK (fn := Try.f101) ttOk (eC S39 eN) (by kernel_rfl) (by kernel_rfl) (by kernel_rfl) (by kernel_rfl) k101
def g146 : Sg := ⟨[(.mut, (.sl c1)), (.imm, (.int .i64)), (.imm, (.int .i64)), (.imm, (.int .i64)), (.fn 39, .unit)], []⟩
noncomputable def C146 : Ct := ⟨146, g146, fun k x => VF.slices_swapRangeCmpFunc_impl_Event k x.1 x.2.1 x.2.2.1 x.2.2.2.1⟩
def h146 : HT := (.n .leaf (.l [(0, .pm (.sl c1)), (10, .one (.int .i64))] .leaf))
noncomputable def e146 : List Ct := [C39]
theorem k146 (k : Nat) (x : g146.In) : evFn tt e146 k Try.f146 [0, 1, 2, 3, 4] h146 g146 x = C146.run k x := by kernel_rfl
theorem S146 : SoundC Try.prog C146 := sndK (fn := Try.f146) ttOk (eC S39 eN) (by kernel_rfl) (by kernel_rfl) (by kernel_rfl) (by kernel_rfl) k146
def g127 : Sg := ⟨[(.mut, (.sl c1)), (.imm, (.int .i64)), (.imm, (.int .i64)), (.imm, (.int .i64)), (.fn 39, .unit)], []⟩
noncomputable def C127 : Ct := ⟨127, g127, fun k x => VF.slices_rotateCmpFunc_impl_Event k x.1 x.2.1 x.2.2.1 x.2.2.2.1⟩
def h127 : HT := (.n .leaf (.n .leaf (.j [(0, .pm (.sl c1)), (10, .one (.int .i64))] (.l [(0, .pm (.sl c1)), (10, .one (.int .i64)), (11, .one (.int .i64))] .leaf) .leaf)))
noncomputable def e127 : List Ct := [C39, C146]
theorem k127 (k : Nat) (x : g127.In) : evFn tt e127 k Try.f127 [0, 1, 2, 3, 4] h127 g127 x = C127.run k x := by kernel_rfl
theorem S127 : SoundC Try.prog C127 := sndK (fn := Try.f127) ttOk (eC S39 (eC S146 eN)) (by kernel_rfl) (by kernel_rfl) (by kernel_rfl) (by kernel_rfl) k127
def g102 : Sg := ⟨[(.mut, (.sl c1)), (.imm, (.int .i64)), (.imm, (.int .i64)), (.imm, (.int .i64)), (.fn 39, .unit)], []⟩
noncomputable def C102 : Ct := ⟨102, g102, fun k x => VF.slices_symMergeCmpFunc_impl_Event k x.1 x.2.1 x.2.2.1 x.2.2.2.1⟩
def h102 : HT := (.j [(0, .pm (.sl c1))] (.n .leaf (.n (.n .leaf (.n .leaf (.j [(0, .pm (.sl c1)), (10, .one (.int .i64))] (.l [(0, .pm (.sl c1)), (10, .one (.int .i64)), (11, .one (.int .i64))] .leaf) (.j [(0, .pm (.sl c1))] (.n .leaf (.l [(0, .pm (.sl c1)), (10, .one (.int .i64)), (13, .one (.int .i64))] .leaf)) .leaf)))) .leaf)) (.j [(0, .pm (.sl c1))] (.n .leaf (.n (.n .leaf (.n .leaf (.j [(0, .pm (.sl c1)), (14, .one (.int .i64))] (.l [(0, .pm (.sl c1)), (14, .one (.int .i64)), (15, .one (.int .i64))] .leaf) (.j [(0, .pm (.sl c1))] (.n .leaf (.l [(0, .pm (.sl c1)), (14, .one (.int .i64)), (17, .one (.int .i64))] .leaf)) .leaf)))) .leaf)) (.n .leaf (.n .leaf (.n .leaf (.j [(0, .pm (.sl c1)), (18, .one (.int .i64)), (19, .one (.int .i64)), (20, .one (.int .i64)), (21, .one (.int .i64))] .leaf (.n .leaf (.j [(0, .pm (.sl c1)), (18, .one (.int .i64)), (19, .one (.int .i64)), (20, .one (.int .i64))] (.l [(0, .pm (.sl c1)), (18, .one (.int .i64)), (19, .one (.int .i64)), (20, .one (.int .i64)), (21, .one (.int .i64)), (22, .one (.int .i64))] .leaf) (.n .leaf (.j [(0, .pm (.sl c1)), (18, .one (.int .i64)), (20, .one (.int .i64)), (24, .one (.int .i64))] .leaf (.j [(0, .pm (.sl c1)), (18, .one (.int .i64)), (24, .one (.int .i64))] .leaf .leaf)))))))))))
noncomputable def e102 : List Ct := [C39, C127]
theorem k102 (n k : Nat) (x : g102.In) : evFn tt (⟨102, g102, fun k x => VF.slices_symMergeCmpFunc_impl_Event.rec n k x.1 x.2.1 x.2.2.1 x.2.2.2.1⟩ :: e102) k Try.f102 [0, 1, 2, 3, 4] h102 g102 x = VF.slices_symMergeCmpFunc_impl_Event.rec (n + 1) k x.1 x.2.1 x.2.2.1 x.2.2.2.1 := by kernel_rfl
theorem S102 : SoundC Try.prog C102 := sndRec (fn := Try.f102) (F := fun n k (x : g102.In) => VF.slices_symMergeCmpFunc_impl_Event.rec n k x.1 x.2.1 x.2.2.1 x.2.2.2.1) ttOk (eC S39 (eC S127 eN)) (by kernel_rfl) (by kernel_rfl) (by kernel_rfl) (by kernel_rfl) (fun _ _ => rfl) k102
def g70 : Sg := ⟨[(.mut, (.sl c1)), (.imm, (.int .i64)), (.fn 39, .unit)], []⟩
noncomputable def C70 : Ct := ⟨70, g70, fun k x => VF.slices_stableCmpFunc_impl_Event k x.1 x.2.1⟩
def h70 : HT := (.n .leaf (.n .leaf (.j [(0, .pm (.sl c1)), (6, .one (.int .i64)), (7, .one (.int .i64))] (.l [(0, .pm (.sl c1)), (6, .one (.int .i64)), (7, .one (.int .i64)), (8, .one (.int .i64))] .leaf) (.n .leaf (.l [(0, .pm (.sl c1)), (6, .one (.int .i64))] (.n .leaf (.n .leaf (.j [(0, .pm (.sl c1)), (6, .one (.int .i64)), (7, .one (.int .i64))] (.l [(0, .pm (.sl c1)), (6, .one (.int .i64)), (7, .one (.int .i64)), (8, .one (.int .i64))] .leaf) .leaf))))))))
noncomputable def e70 : List Ct := [C39, C101, C102]
theorem k70 (k : Nat) (x : g70.In) : evFn tt e70 k Try.f70 [0, 1, 2] h70 g70 x = C70.run k x := by kernel_rfl
theorem S70 : SoundC Try.prog C70 := sndK (fn := Try.f70) ttOk (eC S39 (eC S101 (eC S102 eN))) (by kernel_rfl) (by kernel_rfl) (by kernel_rfl) (by kernel_rfl) k70
def g38 : Sg := ⟨[(.mut, (.sl c1)), (.fn 39, .unit)], []⟩
noncomputable def C38 : Ct := ⟨38, g38, fun k x => VF.slices_SortStableFunc_impl_Event_impl_Event k x.1⟩
def h38 : HT := .leaf
noncomputable def e38 : List Ct := [C39, C70]
theorem k38 (k : Nat) (x : g38.In) : evFn tt e38 k Try.f38 [0, 1] h38 g38 x = C38.run k x := by kernel_rfl
theorem S38 : SoundC Try.prog C38 := sndK (fn := Try.f38) ttOk (eC S39 (eC S70 eN)) (by kernel_rfl) (by kernel_rfl) (by kernel_rfl) (by kernel_rfl) k38
def g13 : Sg := ⟨[(.imm, (.sl c1))], [(.own true, (.sl c1))]⟩
noncomputable def C13 : Ct := ⟨13, g13, fun k x => VF.impl_SortEvents k x.1⟩
def h13 : HT := (.n .leaf (.n .leaf (.n .leaf (.n .leaf (.j [(3, .one (.row true c1)), (4, .one (.row true c1))] (.n .leaf (.l [(3, .one (.row true c1)), (4, .one (.row true c1)), (16, .one (.sl c1)), (17, .one (.int .i64)), (18, .one (.int .i64))] .leaf)) (.n .leaf (.n .leaf (.j [(3, .one (.row true c1))] (.n .leaf (.l [(3, .one (.row true c1)), (7, .one (.map (.int .i64) .bool)), (32, .one (.row true c1)), (33, .one (.int .i64)), (34, .one (.int .i64))] .leaf)) .leaf))))))))
noncomputable def e13 : List Ct := [C37, C38, C39]
theorem k13 (k : Nat) (x : g13.In) : evFn tt e13 k Try.f13 [0] h13 g13 x = C13.run k x := by kernel_rfl
theorem S13 : SoundC Try.prog C13 := sndK (fn := Try.f13) ttOk (eC S37 (eC S38 (eC S39 eN))) (by kernel_rfl) (by kernel_rfl) (by kernel_rfl) (by kernel_rfl) k13
def g72 : Sg := ⟨[(.imm, (.sl c0))], [(.imm, .bool)]⟩
noncomputable def C72 : Ct := ⟨72, g72, fun k x => VF.impl_AreLayers k x.1⟩
def h72 : HT := (.n .leaf (.j [] (.n .leaf (.l [(5, .one (.sl c0)), (6, .one (.int .i64)), (7, .one (.int .i64))] (.n .leaf (.n .leaf (.j [(5, .one (.sl c0)), (6, .one (.int .i64)), (7, .one (.int .i64))] .leaf .leaf))))) .leaf))
noncomputable def e72 : List Ct := [C51]
theorem k72 (k : Nat) (x : g72.In) : evFn tt e72 k Try.f72 [0] h72 g72 x = C72.run k x := by kernel_rfl
theorem S72 : SoundC Try.prog C72 := sndK (fn := Try.f72) ttOk (eC S51 eN) (by kernel_rfl) (by kernel_rfl) (by kernel_rfl) (by kernel_rfl) k72
def g104 : Sg := ⟨[(.imm, (.sl c2))], [(.imm, .bool)]⟩
noncomputable def C104 : Ct := ⟨104, g104, fun k x => VF.impl_AreEntries k x.1⟩
def h104 : HT := (.n .leaf (.n .leaf (.j [(3, .one (.int .i64))] (.n .leaf (.l [(3, .one (.int .i64)), (6, .one (.sl c2)), (7, .one (.int .i64)), (8, .one (.int .i64))] .leaf)) .leaf)))
noncomputable def e104 : List Ct := [C50, C51]
theorem k104 (k : Nat) (x : g104.In) : evFn tt e104 k Try.f104 [0] h104 g104 x = C104.run k x := by kernel_rfl
theorem S104 : SoundC Try.prog C104 := sndK (fn := Try.f104) ttOk (eC S50 (eC S51 eN)) (by kernel_rfl) (by kernel_rfl) (by kernel_rfl) (by kernel_rfl) k104
def g73 : Sg := ⟨[(.imm, (.sl c3))], [(.imm, .bool)]⟩
noncomputable def C73 : Ct := ⟨73, g73, fun k x => VF.impl_AreDocuments k x.1⟩
def h73 : HT := (.n .leaf (.j [] (.n .leaf (.l [(5, .one (.sl c3)), (6, .one (.int .i64)), (7, .one (.int .i64))] .leaf)) .leaf))
noncomputable def e73 : List Ct := [C51, C104]
theorem k73 (k : Nat) (x : g73.In) : evFn tt e73 k Try.f73 [0] h73 g73 x = C73.run k x := by kernel_rfl
theorem S73 : SoundC Try.prog C73 := sndK (fn := Try.f73) ttOk (eC S51 (eC S104 eN)) (by kernel_rfl) (by kernel_rfl) (by kernel_rfl) (by kernel_rfl) k73
def g40 : Sg := ⟨[(.imm, c5)], [(.imm, .bool)]⟩
noncomputable def C40 : Ct := ⟨40, g40, fun k x => VF.impl_AreBooks k x.1⟩
def h40 : HT := (.n .leaf (.j [(1, .var [.sl c4, .int .i64, .sl c3])] (.n .leaf (.l [(1, .var [.sl c4, .int .i64, .sl c3]), (8, .one (.sl c4)), (9, .one (.int .i64)), (10, .one (.int .i64))] (.n .leaf (.n .leaf (.j [(1, .var [.sl c4, .int .i64, .sl c3]), (8, .one (.sl c4)), (9, .one (.int .i64)), (10, .one (.int .i64))] (.n .leaf (.j [(1, .var [.sl c4, .int .i64, .sl c3]), (4, .var [.str, .sl (.int .i64), .sl c0]), (8, .one (.sl c4)), (9, .one (.int .i64)), (10, .one (.int .i64))] .leaf (.n .leaf (.l [(1, .var [.sl c4, .int .i64, .sl c3]), (8, .one (.sl c4)), (9, .one (.int .i64)), (10, .one (.int .i64)), (51, .one (.sl (.int .i64))), (52, .one (.int .i64)), (53, .one (.int .i64))] .leaf)))) .leaf))))) .leaf))
noncomputable def e40 : List Ct := [C50, C51, C72, C73]
theorem k40 (k : Nat) (x : g40.In) : evFn tt e40 k Try.f40 [0] h40 g40 x = C40.run k x := by kernel_rfl
theorem S40 : SoundC Try.prog C40 := sndK (fn := Try.f40) ttOk (eC S50 (eC S51 (eC S72 (eC S73 eN)))) (by kernel_rfl) (by kernel_rfl) (by kernel_rfl) (by kernel_rfl) k40
def g95 : Sg := ⟨[(.imm, (.sl c3))], [(.own true, (.sl c3))]⟩
noncomputable def C95 : Ct := ⟨95, g95, fun k x => VF.impl_copyDocuments k x.1⟩
def h95 : HT := (.n .leaf (.n .leaf (.j [(3, .one (.row true c3))] (.n .leaf (.l [(3, .one (.row true c3)), (7, .one (.sl c3)), (8, .one (.int .i64)), (9, .one (.int .i64))] .leaf)) .leaf)))
noncomputable def e95 : List Ct := []
theorem k95 (k : Nat) (x : g95.In) : evFn tt e95 k Try.f95 [0] h95 g95 x = C95.run k x := by kernel_rfl
theorem S95 : SoundC Try.prog C95 := sndK (fn := Try.f95) ttOk eN (by kernel_rfl) (by kernel_rfl) (by kernel_rfl) (by kernel_rfl) k95
def g96 : Sg := ⟨[(.imm, (.sl c0))], [(.own true, (.sl c0))]⟩
noncomputable def C96 : Ct := ⟨96, g96, fun k x => VF.impl_copyLayers k x.1⟩
def h96 : HT := .leaf
noncomputable def e96 : List Ct := []
theorem k96 (k : Nat) (x : g96.In) : evFn tt e96 k Try.f96 [0] h96 g96 x = C96.run k x := by kernel_rfl
theorem S96 : SoundC Try.prog C96 := sndK (fn := Try.f96) ttOk eN (by kernel_rfl) (by kernel_rfl) (by kernel_rfl) (by kernel_rfl) k96
def g68 : Sg := ⟨[(.imm, c5)], [(.own true, c5)]⟩
noncomputable def C68 : Ct := ⟨68, g68, fun k x => VF.impl_copyBooks k x.1⟩
def h68 : HT := (.n .leaf (.n .leaf (.j [(2, .var [.row true c4, .int .i64, .row true c3]), (3, .var [.row true c4, .int .i64, .row true c3])] (.n .leaf (.l [(2, .var [.row true c4, .int .i64, .row true c3]), (3, .var [.row true c4, .int .i64, .row true c3]), (13, .one (.sl c4)), (14, .one (.int .i64)), (15, .one (.int .i64))] .leaf)) .leaf)))
noncomputable def e68 : List Ct := [C95, C96]
theorem k68 (k : Nat) (x : g68.In) : evFn tt e68 k Try.f68 [0] h68 g68 x = C68.run k x := by kernel_rfl
theorem S68 : SoundC Try.prog C68 := sndK (fn := Try.f68) ttOk (eC S95 (eC S96 eN)) (by kernel_rfl) (by kernel_rfl) (by kernel_rfl) (by kernel_rfl) k68
def g122 : Sg := ⟨[(.imm, c5), (.imm, .str)], [(.imm, (.int .i64))]⟩
noncomputable def C122 : Ct := ⟨122, g122, fun k x => VF.impl_shelfOf k x.1 x.2.1⟩
def h122 : HT := (.n .leaf (.j [] (.n .leaf (.l [(8, .one (.sl c4)), (9, .one (.int .i64)), (10, .one (.int .i64))] .leaf)) .leaf))
noncomputable def e122 : List Ct := []
theorem k122 (k : Nat) (x : g122.In) : evFn tt e122 k Try.f122 [0, 1] h122 g122 x = C122.run k x := by kernel_rfl
theorem S122 : SoundC Try.prog C122 := sndK (fn := Try.f122) ttOk eN (by kernel_rfl) (by kernel_rfl) (by kernel_rfl) (by kernel_rfl) k122
def g123 : Sg := ⟨[(.imm, (.sl c0)), (.imm, (.int .i64)), (.imm, (.int .i64))], [(.own true, (.sl c0)), (.imm, .bool)]⟩
noncomputable def C123 : Ct := ⟨123, g123, fun k x => VF.impl_ReceiveLayer k x.1 x.2.1 x.2.2.1⟩
def h123 : HT := .leaf
noncomputable def e123 : List Ct := [C72, C96]
theorem k123 (k : Nat) (x : g123.In) : evFn tt e123 k Try.f123 [0, 1, 2] h123 g123 x = C123.run k x := by kernel_rfl
theorem S123 : SoundC Try.prog C123 := sndK (fn := Try.f123) ttOk (eC S72 (eC S96 eN)) (by kernel_rfl) (by kernel_rfl) (by kernel_rfl) (by kernel_rfl) k123
def g97 : Sg := ⟨[(.ptr, c5), (.imm, c1)], [(.imm, .bool)]⟩
noncomputable def C97 : Ct := ⟨97, g97, fun k x => VF.impl_receive k x.1 x.2.1⟩
def h97 : HT := (.n .leaf (.n .leaf (.j [(0, .pp [.row true c4, .int .i64, .row true c3]), (3, .var [.int .i64, .int .i64, .int .i64, .str, .int .i64, .int .i64, .int .i64]), (5, .one (.int .i64))] (.n .leaf (.n (.n .leaf (.n .leaf (.j [(0, .pp [.row true c4, .int .i64, .row true c3]), (3, .var [.int .i64, .int .i64, .int .i64, .str, .int .i64, .int .i64, .int .i64]), (5, .one (.int .i64))] (.l [(0, .pp [.row true c4, .int .i64, .row true c3]), (3, .var [.int .i64, .int .i64, .int .i64, .str, .int .i64, .int .i64, .int .i64]), (5, .one (.int .i64))] .leaf) .leaf))) .leaf)) .leaf)))
noncomputable def e97 : List Ct := [C122, C123]
theorem k97 (k : Nat) (x : g97.In) : evFn tt e97 k Try.f97 [0, 1] h97 g97 x = C97.run k x := by kernel_rfl
theorem S97 : SoundC Try.prog C97 := sndK (fn := Try.f97) ttOk (eC S122 (eC S123 eN)) (by kernel_rfl) (by kernel_rfl) (by kernel_rfl) (by kernel_rfl) k97
def g124 : Sg := ⟨[(.imm, (.sl c3)), (.imm, (.int .i64)), (.imm, (.sl c2))], [(.own true, (.sl c3)), (.imm, .bool)]⟩
noncomputable def C124 : Ct := ⟨124, g124, fun k x => VF.impl_PostEntries k x.1 x.2.1 x.2.2.1⟩
def h124 : HT := .leaf
noncomputable def e124 : List Ct := [C73, C95]
theorem k124 (k : Nat) (x : g124.In) : evFn tt e124 k Try.f124 [0, 1, 2] h124 g124 x = C124.run k x := by kernel_rfl
theorem S124 : SoundC Try.prog C124 := sndK (fn := Try.f124) ttOk (eC S73 (eC S95 eN)) (by kernel_rfl) (by kernel_rfl) (by kernel_rfl) (by kernel_rfl) k124
def g98 : Sg := ⟨[(.ptr, c5), (.imm, (.int .i64)), (.imm, (.sl c2))], [(.imm, .bool)]⟩
noncomputable def C98 : Ct := ⟨98, g98, fun k x => VF.impl_post k x.1 x.2.1 x.2.2.1⟩
def h98 : HT := (.n .leaf (.n .leaf (.j [(0, .pp [.row true c4, .int .i64, .row true c3]), (7, .one (.row true c2))] (.n .leaf (.l [(0, .pp [.row true c4, .int .i64, .row true c3]), (7, .one (.row true c2)), (13, .one (.sl c2)), (14, .one (.int .i64)), (15, .one (.int .i64))] .leaf)) .leaf)))
noncomputable def e98 : List Ct := [C124]
theorem k98 (k : Nat) (x : g98.In) : evFn tt e98 k Try.f98 [0, 1, 2] h98 g98 x = C98.run k x := by kernel_rfl
theorem S98 : SoundC Try.prog C98 := sndK (fn := Try.f98) ttOk (eC S124 eN) (by kernel_rfl) (by kernel_rfl) (by kernel_rfl) (by kernel_rfl) k98
def g105 : Sg := ⟨[(.imm, c0), (.imm, (.int .i64))], [(.imm, (.int .i64))]⟩
noncomputable def C105 : Ct := ⟨105, g105, fun k x => VF.impl_firstCost k x.1 x.2.1⟩
def h105 : HT := .leaf
noncomputable def e105 : List Ct := []
theorem k105 (k : Nat) (x : g105.In) : evFn tt e105 k Try.f105 [0, 1] h105 g105 x = C105.run k x := by kernel_rfl
theorem S105 : SoundC Try.prog C105 := sndK (fn := Try.f105) ttOk eN (by kernel_rfl) (by kernel_rfl) (by kernel_rfl) (by kernel_rfl) k105
def g145 : Sg := ⟨[(.imm, (.sl c0))], [(.imm, (.int .i64))]⟩
noncomputable def C145 : Ct := ⟨145, g145, fun k x => VF.impl_LeftOf k x.1⟩
def h145 : HT := (.n .leaf (.n .leaf (.n .leaf (.j [(3, .one (.int .i64))] (.n .leaf (.l [(3, .one (.int .i64)), (9, .one (.sl c0)), (10, .one (.int .i64)), (11, .one (.int .i64))] .leaf)) .leaf))))
noncomputable def e145 : List Ct := [C72]
theorem k145 (k : Nat) (x : g145.In) : evFn tt e145 k Try.f145 [0] h145 g145 x = C145.run k x := by kernel_rfl
theorem S145 : SoundC Try.prog C145 := sndK (fn := Try.f145) ttOk (eC S72 eN) (by kernel_rfl) (by kernel_rfl) (by kernel_rfl) (by kernel_rfl) k145
def g125 : Sg := ⟨[(.imm, (.sl c0)), (.imm, (.int .i64))], [(.own true, (.sl c0)), (.imm, (.int .i64)), (.imm, .bool)]⟩
noncomputable def C125 : Ct := ⟨125, g125, fun k x => VF.impl_IssueLayers k x.1 x.2.1⟩
def h125 : HT := (.n .leaf (.j [(1, .one (.int .i64))] .leaf (.n .leaf (.n .leaf (.j [(7, .one (.row true c0)), (8, .one (.int .i64))] (.n .leaf (.l [(1, .one (.int .i64)), (7, .one (.row true c0)), (8, .one (.int .i64)), (25, .one (.int .i64)), (26, .one (.int .i64))] .leaf)) .leaf)))))
noncomputable def e125 : List Ct := [C51, C72, C96, C105, C145]
theorem k125 (k : Nat) (x : g125.In) : evFn tt e125 k Try.f125 [0] h125 g125 x = C125.run k x := by kernel_rfl
theorem S125 : SoundC Try.prog C125 := sndK (fn := Try.f125) ttOk (eC S51 (eC S72 (eC S96 (eC S105 (eC S145 eN))))) (by kernel_rfl) (by kernel_rfl) (by kernel_rfl) (by kernel_rfl) k125
def g99 : Sg := ⟨[(.ptr, c5), (.imm, c1)], [(.imm, (.int .i64)), (.imm, .bool)]⟩
noncomputable def C99 : Ct := ⟨99, g99, fun k x => VF.impl_issue k x.1 x.2.1⟩
def h99 : HT := .leaf
noncomputable def e99 : List Ct := [C122, C125]
theorem k99 (k : Nat) (x : g99.In) : evFn tt e99 k Try.f99 [0, 1] h99 g99 x = C99.run k x := by kernel_rfl
theorem S99 : SoundC Try.prog C99 := sndK (fn := Try.f99) ttOk (eC S122 (eC S125 eN)) (by kernel_rfl) (by kernel_rfl) (by kernel_rfl) (by kernel_rfl) k99
def g126 : Sg := ⟨[(.imm, (.sl c0)), (.imm, (.int .i64)), (.imm, (.int .i64))], [(.own true, (.sl c0)), (.imm, (.int .i64)), (.imm, .bool)]⟩
noncomputable def C126 : Ct := ⟨126, g126, fun k x => VF.impl_AddLate k x.1 x.2.1 x.2.2.1⟩
def h126 : HT := (.n .leaf (.j [] .leaf .leaf))
noncomputable def e126 : List Ct := [C51, C72, C96, C105]
theorem k126 (k : Nat) (x : g126.In) : evFn tt e126 k Try.f126 [0, 1, 2] h126 g126 x = C126.run k x := by kernel_rfl
theorem S126 : SoundC Try.prog C126 := sndK (fn := Try.f126) ttOk (eC S51 (eC S72 (eC S96 (eC S105 eN)))) (by kernel_rfl) (by kernel_rfl) (by kernel_rfl) (by kernel_rfl) k126
def g100 : Sg := ⟨[(.ptr, c5), (.imm, c1)], [(.imm, (.int .i64)), (.imm, (.int .i64))]⟩
noncomputable def C100 : Ct := ⟨100, g100, fun k x => VF.impl_late k x.1 x.2.1⟩
def h100 : HT := (.n .leaf (.n .leaf (.n .leaf (.n .leaf (.n .leaf (.j [(0, .pp [.row true c4, .int .i64, .row true c3]), (3, .var [.int .i64, .int .i64, .int .i64, .str, .int .i64, .int .i64, .int .i64]), (7, .ep 0 1 0 c4), (8, .one (.int .i64))] (.n .leaf (.l [(0, .pp [.row true c4, .int .i64, .row true c3]), (3, .var [.int .i64, .int .i64, .int .i64, .str, .int .i64, .int .i64, .int .i64]), (7, .ep 0 1 0 c4), (8, .one (.int .i64)), (31, .nr 0 1 1 (.int .i64)), (32, .one (.int .i64)), (33, .one (.int .i64))] .leaf)) .leaf))))))
noncomputable def e100 : List Ct := [C122, C126]
theorem k100 (k : Nat) (x : g100.In) : evFn tt e100 k Try.f100 [0, 1] h100 g100 x = C100.run k x := by kernel_rfl
theorem S100 : SoundC Try.prog C100 := sndK (fn := Try.f100) ttOk (eC S122 (eC S126 eN)) (by kernel_rfl) (by kernel_rfl) (by kernel_rfl) (by kernel_rfl) k100
def g69 : Sg := ⟨[(.ptr, c5), (.imm, c1)], [(.imm, (.int .i64))]⟩
noncomputable def C69 : Ct := ⟨69, g69, fun k x => VF.impl_book k x.1 x.2.1⟩
def h69 : HT := (.n .leaf (.n .leaf (.j [(0, .pp [.row true c4, .int .i64, .row true c3]), (5, .one (.bool))] (.n .leaf (.n .leaf (.n .leaf (.n .leaf (.n .leaf (.j [(0, .pp [.row true c4, .int .i64, .row true c3]), (3, .var [.int .i64, .int .i64, .int .i64, .str, .int .i64, .int .i64, .int .i64]), (5, .one (.bool)), (11, .one (.int .i64)), (66, .one (.bool))] .leaf .leaf)))))) .leaf)))
noncomputable def e69 : List Ct := [C97, C98, C99, C100]
theorem k69 (k : Nat) (x : g69.In) : evFn tt e69 k Try.f69 [0, 1] h69 g69 x = C69.run k x := by kernel_rfl
theorem S69 : SoundC Try.prog C69 := sndK (fn := Try.f69) ttOk (eC S97 (eC S98 (eC S99 (eC S100 eN)))) (by kernel_rfl) (by kernel_rfl) (by kernel_rfl) (by kernel_rfl) k69
def g34 : Sg := ⟨[(.imm, c5), (.imm, c1)], [(.own true, c5), (.imm, (.int .i64))]⟩
noncomputable def C34 : Ct := ⟨34, g34, fun k x => VF.impl_BookEvent k x.1 x.2.1⟩
def h34 : HT := (.n .leaf (.n .leaf (.j [(2, .var [.sl c4, .int .i64, .sl c3]), (3, .var [.int .i64, .int .i64, .int .i64, .str, .int .i64, .int .i64, .int .i64]), (4, .var [.row true c4, .int .i64, .row true c3]), (6, .var [.row true c4, .int .i64, .row true c3])] .leaf .leaf)))
noncomputable def e34 : List Ct := [C37, C40, C68, C69]
theorem k34 (k : Nat) (x : g34.In) : evFn tt e34 k Try.f34 [0, 1] h34 g34 x = C34.run k x := by kernel_rfl
theorem S34 : SoundC Try.prog C34 := sndK (fn := Try.f34) ttOk (eC S37 (eC S40 (eC S68 (eC S69 eN)))) (by kernel_rfl) (by kernel_rfl) (by kernel_rfl) (by kernel_rfl) k34
def g8 : Sg := ⟨[(.imm, (.sl c1))], [(.own true, c5), (.own true, (.sl (.int .i64)))]⟩
noncomputable def C8 : Ct := ⟨8, g8, fun k x => VF.impl_BooksOf k x.1⟩
def h8 : HT := (.n .leaf (.n .leaf (.j [(2, .var [.row true c4, .int .i64, .row true c3]), (4, .var [.row true c4, .int .i64, .row true c3]), (5, .one (.row true (.int .i64)))] (.n .leaf (.l [(2, .var [.row true c4, .int .i64, .row true c3]), (4, .var [.row true c4, .int .i64, .row true c3]), (5, .one (.row true (.int .i64))), (13, .one (.row true c1)), (14, .one (.int .i64)), (15, .one (.int .i64))] .leaf)) .leaf)))
noncomputable def e8 : List Ct := [C13, C34]
theorem k8 (k : Nat) (x : g8.In) : evFn tt e8 k Try.f8 [0] h8 g8 x = C8.run k x := by kernel_rfl
theorem S8 : SoundC Try.prog C8 := sndK (fn := Try.f8) ttOk (eC S13 (eC S34 eN)) (by kernel_rfl) (by kernel_rfl) (by kernel_rfl) (by kernel_rfl) k8
def g55 : Sg := ⟨[(.imm, c1), (.imm, (.int .i64))], [(.imm, (.int .i64))]⟩
noncomputable def C55 : Ct := ⟨55, g55, fun k x => VF.laws_szEvent k x.1 x.2.1⟩
def h55 : HT := .leaf
noncomputable def e55 : List Ct := []
theorem k55 (k : Nat) (x : g55.In) : evFn tt e55 k Try.f55 [0] h55 g55 x = C55.run k x := by kernel_rfl
theorem S55 : SoundC Try.prog C55 := sndK (fn := Try.f55) ttOk eN (by kernel_rfl) (by kernel_rfl) (by kernel_rfl) (by kernel_rfl) k55
def g21 : Sg := ⟨[(.imm, (.sl c1)), (.imm, (.int .i64))], [(.imm, (.int .i64))]⟩
noncomputable def C21 : Ct := ⟨21, g21, fun k x => VF.laws_szEventS k x.1 x.2.1⟩
def h21 : HT := (.n .leaf (.n .leaf (.n .leaf (.j [(1, .one (.int .i64))] (.n .leaf (.l [(1, .one (.int .i64)), (5, .one (.int .i64))] .leaf)) .leaf))))
noncomputable def e21 : List Ct := [C55]
theorem k21 (k : Nat) (x : g21.In) : evFn tt e21 k Try.f21 [0] h21 g21 x = C21.run k x := by kernel_rfl
theorem S21 : SoundC Try.prog C21 := sndK (fn := Try.f21) ttOk (eC S55 eN) (by kernel_rfl) (by kernel_rfl) (by kernel_rfl) (by kernel_rfl) k21
def g75 : Sg := ⟨[(.imm, .str)], [(.imm, .bool)]⟩
noncomputable def C75 : Ct := ⟨75, g75, fun k x => VF.spec_IsCode k x.1⟩
def h75 : HT := (.n .leaf (.j [] (.n .leaf (.l [(3, .one (.int .i64))] (.n .leaf (.j [(3, .one (.int .i64))] (.j [(3, .one (.int .i64)), (4, .one (.bool))] .leaf .leaf) .leaf)))) .leaf))
noncomputable def e75 : List Ct := []
theorem k75 (k : Nat) (x : g75.In) : evFn tt e75 k Try.f75 [0] h75 g75 x = C75.run k x := by kernel_rfl
theorem S75 : SoundC Try.prog C75 := sndK (fn := Try.f75) ttOk eN (by kernel_rfl) (by kernel_rfl) (by kernel_rfl) (by kernel_rfl) k75
def g77 : Sg := ⟨[(.imm, (.int .i64)), (.imm, (.int .i64)), (.imm, (.int .i64))], [(.imm, .bool)]⟩
noncomputable def C77 : Ct := ⟨77, g77, fun k x => VF.spec_l1In k x.1 x.2.1 x.2.2.1⟩
def h77 : HT := .leaf
noncomputable def e77 : List Ct := []
theorem k77 (k : Nat) (x : g77.In) : evFn tt e77 k Try.f77 [0, 1, 2] h77 g77 x = C77.run k x := by kernel_rfl
theorem S77 : SoundC Try.prog C77 := sndK (fn := Try.f77) ttOk eN (by kernel_rfl) (by kernel_rfl) (by kernel_rfl) (by kernel_rfl) k77
def g83 : Sg := ⟨[(.imm, c1)], [(.imm, .bool)]⟩
noncomputable def C83 : Ct := ⟨83, g83, fun k x => VF.spec_IsEvent k x.1⟩
def h83 : HT := (.n .leaf (.j [(1, .var [.int .i64, .int .i64, .int .i64, .str, .int .i64, .int .i64, .int .i64])] .leaf (.n (.n .leaf (.j [(1, .var [.int .i64, .int .i64, .int .i64, .str, .int .i64, .int .i64, .int .i64]), (20, .one (.int .i64)), (21, .one (.bool))] .leaf .leaf)) .leaf)))
noncomputable def e83 : List Ct := [C75, C77]
theorem k83 (k : Nat) (x : g83.In) : evFn tt e83 k Try.f83 [0] h83 g83 x = C83.run k x := by kernel_rfl
theorem S83 : SoundC Try.prog C83 := sndK (fn := Try.f83) ttOk (eC S75 (eC S77 eN)) (by kernel_rfl) (by kernel_rfl) (by kernel_rfl) (by kernel_rfl) k83
def g109 : Sg := ⟨[(.imm, (.sl c1)), (.imm, (.int .i64))], [(.imm, (.int .i64))]⟩
noncomputable def C109 : Ct := ⟨109, g109, fun k x => VF.spec_l37Find k x.1 x.2.1⟩
def h109 : HT := (.n .leaf (.j [] (.n .leaf (.l [(5, .one (.int .i64))] .leaf)) .leaf))
noncomputable def e109 : List Ct := []
theorem k109 (k : Nat) (x : g109.In) : evFn tt e109 k Try.f109 [0, 1] h109 g109 x = C109.run k x := by kernel_rfl
theorem S109 : SoundC Try.prog C109 := sndK (fn := Try.f109) ttOk eN (by kernel_rfl) (by kernel_rfl) (by kernel_rfl) (by kernel_rfl) k109
def g110 : Sg := ⟨[(.imm, c1), (.imm, c1)], [(.imm, .bool)]⟩
noncomputable def C110 : Ct := ⟨110, g110, fun k x => VF.spec_l37Before k x.1 x.2.1⟩
def h110 : HT := (.n .leaf (.n .leaf (.n .leaf (.j [(2, .var [.int .i64, .int .i64, .int .i64, .str, .int .i64, .int .i64, .int .i64]), (3, .var [.int .i64, .int .i64, .int .i64, .str, .int .i64, .int .i64, .int .i64])] (.n .leaf (.l [(2, .var [.int .i64, .int .i64, .int .i64, .str, .int .i64, .int .i64, .int .i64]), (3, .var [.int .i64, .int .i64, .int .i64, .str, .int .i64, .int .i64, .int .i64]), (5, .one (.row true (.int .i64))), (6, .one (.row true (.int .i64))), (7, .one (.int .i64))] .leaf)) .leaf))))
noncomputable def e110 : List Ct := []
theorem k110 (k : Nat) (x : g110.In) : evFn tt e110 k Try.f110 [0, 1] h110 g110 x = C110.run k x := by kernel_rfl
theorem S110 : SoundC Try.prog C110 := sndK (fn := Try.f110) ttOk eN (by kernel_rfl) (by kernel_rfl) (by kernel_rfl) (by kernel_rfl) k110
def g84 : Sg := ⟨[(.imm, (.sl c1)), (.imm, c1)], [(.own true, (.sl c1))]⟩
noncomputable def C84 : Ct := ⟨84, g84, fun k x => VF.spec_l37Put k x.1 x.2.1⟩
def h84 : HT := (.n .leaf (.n .leaf (.n .leaf (.j [(3, .var [.int .i64, .int .i64, .int .i64, .str, .int .i64, .int .i64, .int .i64]), (6, .one (.row true c1))] .leaf (.n .leaf (.j [(3, .var [.int .i64, .int .i64, .int .i64, .str, .int .i64, .int .i64, .int .i64]), (6, .one (.row true c1)), (7, .one (.int .i64))] (.l [(3, .var [.int .i64, .int .i64, .int .i64, .str, .int .i64, .int .i64, .int .i64]), (6, .one (.row true c1)), (7, .one (.int .i64))] .leaf) .leaf))))))
noncomputable def e84 : List Ct := [C109, C110]
theorem k84 (k : Nat) (x : g84.In) : evFn tt e84 k Try.f84 [0, 1] h84 g84 x = C84.run k x := by kernel_rfl
theorem S84 : SoundC Try.prog C84 := sndK (fn := Try.f84) ttOk (eC S109 (eC S110 eN)) (by kernel_rfl) (by kernel_rfl) (by kernel_rfl) (by kernel_rfl) k84
def g56 : Sg := ⟨[(.imm, (.sl c1))], [(.own true, (.sl c1))]⟩
noncomputable def C56 : Ct := ⟨56, g56, fun k x => VF.spec_SortEvents k x.1⟩
def h56 : HT := (.n .leaf (.n .leaf (.j [(3, .one (.row true c1))] (.n .leaf (.l [(3, .one (.row true c1)), (4, .one (.int .i64))] .leaf)) .leaf)))
noncomputable def e56 : List Ct := [C83, C84]
theorem k56 (k : Nat) (x : g56.In) : evFn tt e56 k Try.f56 [0] h56 g56 x = C56.run k x := by kernel_rfl
theorem S56 : SoundC Try.prog C56 := sndK (fn := Try.f56) ttOk (eC S83 (eC S84 eN)) (by kernel_rfl) (by kernel_rfl) (by kernel_rfl) (by kernel_rfl) k56
def g82 : Sg := ⟨[(.imm, (.sl c2))], [(.imm, .bool)]⟩
noncomputable def C82 : Ct := ⟨82, g82, fun k x => VF.spec_AreEntries k x.1⟩
def h82 : HT := (.n .leaf (.n .leaf (.j [(3, .one (.int .i64))] (.n .leaf (.l [(3, .one (.int .i64)), (4, .one (.int .i64))] (.n .leaf (.n (.j [(3, .one (.int .i64)), (4, .one (.int .i64))] .leaf .leaf) .leaf)))) .leaf)))
noncomputable def e82 : List Ct := [C75, C77]
theorem k82 (k : Nat) (x : g82.In) : evFn tt e82 k Try.f82 [0] h82 g82 x = C82.run k x := by kernel_rfl
theorem S82 : SoundC Try.prog C82 := sndK (fn := Try.f82) ttOk (eC S75 (eC S77 eN)) (by kernel_rfl) (by kernel_rfl) (by kernel_rfl) (by kernel_rfl) k82
def g53 : Sg := ⟨[(.imm, (.sl c3))], [(.imm, .bool)]⟩
noncomputable def C53 : Ct := ⟨53, g53, fun k x => VF.spec_AreDocuments k x.1⟩
def h53 : HT := (.n .leaf (.j [] (.n .leaf (.l [(3, .one (.int .i64))] .leaf)) .leaf))
noncomputable def e53 : List Ct := [C77, C82]
theorem k53 (k : Nat) (x : g53.In) : evFn tt e53 k Try.f53 [0] h53 g53 x = C53.run k x := by kernel_rfl
theorem S53 : SoundC Try.prog C53 := sndK (fn := Try.f53) ttOk (eC S77 (eC S82 eN)) (by kernel_rfl) (by kernel_rfl) (by kernel_rfl) (by kernel_rfl) k53
def g76 : Sg := ⟨[(.imm, (.sl c0))], [(.imm, .bool)]⟩
noncomputable def C76 : Ct := ⟨76, g76, fun k x => VF.spec_AreLayers k x.1⟩
def h76 : HT := (.n .leaf (.j [] (.n .leaf (.l [(3, .one (.int .i64))] (.n .leaf (.j [(3, .one (.int .i64))] .leaf .leaf)))) .leaf))
noncomputable def e76 : List Ct := [C77]
theorem k76 (k : Nat) (x : g76.In) : evFn tt e76 k Try.f76 [0] h76 g76 x = C76.run k x := by kernel_rfl
theorem S76 : SoundC Try.prog C76 := sndK (fn := Try.f76) ttOk (eC S77 eN) (by kernel_rfl) (by kernel_rfl) (by kernel_rfl) (by kernel_rfl) k76
def g43 : Sg := ⟨[(.imm, c5)], [(.imm, .bool)]⟩
noncomputable def C43 : Ct := ⟨43, g43, fun k x => VF.spec_AreBooks k x.1⟩
def h43 : HT := (.n .leaf (.j [(1, .var [.sl c4, .int .i64, .sl c3])] (.n .leaf (.l [(1, .var [.sl c4, .int .i64, .sl c3]), (3, .one (.int .i64))] (.n .leaf (.j [(1, .var [.sl c4, .int .i64, .sl c3]), (3, .one (.int .i64))] (.n .leaf (.j [(1, .var [.sl c4, .int .i64, .sl c3]), (3, .one (.int .i64)), (4, .var [.str, .sl (.int .i64), .sl c0])] .leaf (.n .leaf (.l [(1, .var [.sl c4, .int .i64, .sl c3]), (3, .one (.int .i64)), (4, .var [.str, .sl (.int .i64), .sl c0]), (5, .one (.int .i64))] .leaf)))) .leaf)))) .leaf))
noncomputable def e43 : List Ct := [C53, C75, C76, C77]
theorem k43 (k : Nat) (x : g43.In) : evFn tt e43 k Try.f43 [0] h43 g43 x = C43.run k x := by kernel_rfl
theorem S43 : SoundC Try.prog C43 := sndK (fn := Try.f43) ttOk (eC S53 (eC S75 (eC S76 (eC S77 eN)))) (by kernel_rfl) (by kernel_rfl) (by kernel_rfl) (by kernel_rfl) k43
def g111 : Sg := ⟨[(.imm, (.sl c3))], [(.own true, (.sl c3))]⟩
noncomputable def C111 : Ct := ⟨111, g111, fun k x => VF.spec_l35Copy k x.1⟩
def h111 : HT := (.n .leaf (.n .leaf (.j [(3, .one (.row true c3))] (.n .leaf (.l [(3, .one (.row true c3)), (4, .one (.int .i64))] .leaf)) .leaf)))
noncomputable def e111 : List Ct := []
theorem k111 (k : Nat) (x : g111.In) : evFn tt e111 k Try.f111 [0] h111 g111 x = C111.run k x := by kernel_rfl
theorem S111 : SoundC Try.prog C111 := sndK (fn := Try.f111) ttOk eN (by kernel_rfl) (by kernel_rfl) (by kernel_rfl) (by kernel_rfl) k111
def g85 : Sg := ⟨[(.imm, c5)], [(.own true, c5)]⟩
noncomputable def C85 : Ct := ⟨85, g85, fun k x => VF.spec_l36Copy k x.1⟩
def h85 : HT := (.n .leaf (.n .leaf (.j [(2, .var [.row true c4, .int .i64, .row true c3]), (3, .var [.row true c4, .int .i64, .row true c3])] (.n .leaf (.l [(1, .var [.sl c4, .int .i64, .sl c3]), (2, .var [.row true c4, .int .i64, .row true c3]), (3, .var [.row true c4, .int .i64, .row true c3]), (4, .one (.int .i64))] .leaf)) .leaf)))
noncomputable def e85 : List Ct := [C111]
theorem k85 (k : Nat) (x : g85.In) : evFn tt e85 k Try.f85 [0] h85 g85 x = C85.run k x := by kernel_rfl
theorem S85 : SoundC Try.prog C85 := sndK (fn := Try.f85) ttOk (eC S111 eN) (by kernel_rfl) (by kernel_rfl) (by kernel_rfl) (by kernel_rfl) k85
def g115 : Sg := ⟨[(.imm, c5), (.imm, .str)], [(.imm, (.int .i64))]⟩
noncomputable def C115 : Ct := ⟨115, g115, fun k x => VF.spec_l36Shelf k x.1 x.2.1⟩
def h115 : HT := (.n .leaf (.j [] (.n .leaf (.l [(2, .var [.sl c4, .int .i64, .sl c3]), (5, .one (.int .i64))] .leaf)) .leaf))
noncomputable def e115 : List Ct := []
theorem k115 (k : Nat) (x : g115.In) : evFn tt e115 k Try.f115 [0, 1] h115 g115 x = C115.run k x := by kernel_rfl
theorem S115 : SoundC Try.prog C115 := sndK (fn := Try.f115) ttOk eN (by kernel_rfl) (by kernel_rfl) (by kernel_rfl) (by kernel_rfl) k115
def g140 : Sg := ⟨[(.imm, (.sl c0)), (.imm, (.int .i64)), (.imm, (.int .i64))], [(.own true, (.sl c0)), (.imm, .bool)]⟩
noncomputable def C140 : Ct := ⟨140, g140, fun k x => VF.spec_ReceiveLayer k x.1 x.2.1 x.2.2.1⟩
def h140 : HT := .leaf
noncomputable def e140 : List Ct := [C76]
theorem k140 (k : Nat) (x : g140.In) : evFn tt e140 k Try.f140 [0, 1, 2] h140 g140 x = C140.run k x := by kernel_rfl
theorem S140 : SoundC Try.prog C140 := sndK (fn := Try.f140) ttOk (eC S76 eN) (by kernel_rfl) (by kernel_rfl) (by kernel_rfl) (by kernel_rfl) k140
def g112 : Sg := ⟨[(.own, c5), (.imm, c1)], [(.own true, c5), (.imm, (.int .i64))]⟩
noncomputable def C112 : Ct := ⟨112, g112, fun k x => VF.spec_l36Receive k x.1 x.2.1⟩
def h112 : HT := (.n .leaf (.n .leaf (.j [(2, .var [.row true c4, .int .i64, .row true c3]), (3, .var [.int .i64, .int .i64, .int .i64, .str, .int .i64, .int .i64, .int .i64]), (4, .var [.row true c4, .int .i64, .row true c3]), (6, .one (.int .i64))] (.n .leaf (.n (.j [(2, .var [.row true c4, .int .i64, .row true c3]), (3, .var [.int .i64, .int .i64, .int .i64, .str, .int .i64, .int .i64, .int .i64]), (4, .var [.row true c4, .int .i64, .row true c3]), (6, .one (.int .i64))] (.n .leaf (.l [(2, .var [.row true c4, .int .i64, .row true c3]), (3, .var [.int .i64, .int .i64, .int .i64, .str, .int .i64, .int .i64, .int .i64]), (4, .var [.row true c4, .int .i64, .row true c3]), (6, .one (.int .i64))] .leaf)) .leaf) .leaf)) (.n .leaf (.j [(2, .var [.row true c4, .int .i64, .row true c3]), (3, .var [.int .i64, .int .i64, .int .i64, .str, .int .i64, .int .i64, .int .i64]), (4, .var [.row true c4, .int .i64, .row true c3]), (6, .one (.int .i64)), (7, .one (.row true c0))] .leaf (.j [(2, .var [.row true c4, .int .i64, .row true c3]), (3, .var [.int .i64, .int .i64, .int .i64, .str, .int .i64, .int .i64, .int .i64]), (4, .var [.row true c4, .int .i64, .row true c3]), (6, .one (.int .i64))] .leaf .leaf))))))
noncomputable def e112 : List Ct := [C115, C140]
theorem k112 (k : Nat) (x : g112.In) : evFn tt e112 k Try.f112 [1] h112 g112 x = C112.run k x := by kernel_rfl
theorem S112 : SoundC Try.prog C112 := sndK (fn := Try.f112) ttOk (eC S115 (eC S140 eN)) (by kernel_rfl) (by kernel_rfl) (by kernel_rfl) (by kernel_rfl) k112
def g141 : Sg := ⟨[(.imm, (.sl c3)), (.imm, (.int .i64)), (.imm, (.sl c2))], [(.own true, (.sl c3)), (.imm, .bool)]⟩
noncomputable def C141 : Ct := ⟨141, g141, fun k x => VF.spec_PostEntries k x.1 x.2.1 x.2.2.1⟩
def h141 : HT := .leaf
noncomputable def e141 : List Ct := [C53, C111]
theorem k141 (k : Nat) (x : g141.In) : evFn tt e141 k Try.f141 [0, 1, 2] h141 g141 x = C141.run k x := by kernel_rfl
theorem S141 : SoundC Try.prog C141 := sndK (fn := Try.f141) ttOk (eC S53 (eC S111 eN)) (by kernel_rfl) (by kernel_rfl) (by kernel_rfl) (by kernel_rfl) k141
def g113 : Sg := ⟨[(.own, c5), (.imm, (.int .i64)), (.imm, (.sl .str)), (.imm, (.sl (.int .i64)))], [(.own true, c5), (.imm, (.int .i64))]⟩
noncomputable def C113 : Ct := ⟨113, g113, fun k x => VF.spec_l36Post k x.1 x.2.1 x.2.2.1 x.2.2.2.1⟩
def h113 : HT := (.n .leaf (.n .leaf (.j [(4, .var [.row true c4, .int .i64, .row true c3]), (8, .var [.row true c4, .int .i64, .row true c3]), (10, .one (.row true c2))] (.n .leaf (.l [(4, .var [.row true c4, .int .i64, .row true c3]), (8, .var [.row true c4, .int .i64, .row true c3]), (10, .one (.row true c2)), (11, .one (.int .i64))] .leaf)) .leaf)))
noncomputable def e113 : List Ct := [C141]
theorem k113 (k : Nat) (x : g113.In) : evFn tt e113 k Try.f113 [1, 2, 3] h113 g113 x = C113.run k x := by kernel_rfl
theorem S113 : SoundC Try.prog C113 := sndK (fn := Try.f113) ttOk (eC S141 eN) (by kernel_rfl) (by kernel_rfl) (by kernel_rfl) (by kernel_rfl) k113
def g106 : Sg := ⟨[(.imm, c0), (.imm, (.int .i64))], [(.imm, (.int .i64))]⟩
noncomputable def C106 : Ct := ⟨106, g106, fun k x => VF.spec_l31Cost k x.1 x.2.1⟩
def h106 : HT := .leaf
noncomputable def e106 : List Ct := []
theorem k106 (k : Nat) (x : g106.In) : evFn tt e106 k Try.f106 [0, 1] h106 g106 x = C106.run k x := by kernel_rfl
theorem S106 : SoundC Try.prog C106 := sndK (fn := Try.f106) ttOk eN (by kernel_rfl) (by kernel_rfl) (by kernel_rfl) (by kernel_rfl) k106
def g153 : Sg := ⟨[(.imm, (.sl c0))], [(.imm, (.int .i64))]⟩
noncomputable def C153 : Ct := ⟨153, g153, fun k x => VF.spec_LeftOf k x.1⟩
def h153 : HT := (.n .leaf (.n .leaf (.j [(3, .one (.int .i64))] (.n .leaf (.l [(3, .one (.int .i64)), (4, .one (.int .i64))] .leaf)) .leaf)))
noncomputable def e153 : List Ct := [C76]
theorem k153 (k : Nat) (x : g153.In) : evFn tt e153 k Try.f153 [0] h153 g153 x = C153.run k x := by kernel_rfl
theorem S153 : SoundC Try.prog C153 := sndK (fn := Try.f153) ttOk (eC S76 eN) (by kernel_rfl) (by kernel_rfl) (by kernel_rfl) (by kernel_rfl) k153
def g142 : Sg := ⟨[(.imm, (.sl c0)), (.imm, (.int .i64))], [(.own true, (.sl c0)), (.imm, (.int .i64)), (.imm, .bool)]⟩
noncomputable def C142 : Ct := ⟨142, g142, fun k x => VF.spec_IssueLayers k x.1 x.2.1⟩
def h142 : HT := (.n .leaf (.j [] .leaf (.n .leaf (.n .leaf (.n .leaf (.j [(7, .one (.row true c0)), (9, .one (.int .i64))] (.n .leaf (.l [(7, .one (.row true c0)), (8, .one (.int .i64)), (9, .one (.int .i64)), (10, .one (.int .i64))] .leaf)) .leaf))))))
noncomputable def e142 : List Ct := [C76, C77, C106, C153]
theorem k142 (k : Nat) (x : g142.In) : evFn tt e142 k Try.f142 [0, 1] h142 g142 x = C142.run k x := by kernel_rfl
theorem S142 : SoundC Try.prog C142 := sndK (fn := Try.f142) ttOk (eC S76 (eC S77 (eC S106 (eC S153 eN)))) (by kernel_rfl) (by kernel_rfl) (by kernel_rfl) (by kernel_rfl) k142
def g114 : Sg := ⟨[(.own, c5), (.imm, c1)], [(.own true, c5), (.imm, (.int .i64)), (.imm, (.int .i64))]⟩
noncomputable def C114 : Ct := ⟨114, g114, fun k x => VF.spec_l36Issue k x.1 x.2.1⟩
def h114 : HT := .leaf
noncomputable def e114 : List Ct := [C115, C142]
theorem k114 (k : Nat) (x : g114.In) : evFn tt e114 k Try.f114 [1] h114 g114 x = C114.run k x := by kernel_rfl
theorem S114 : SoundC Try.prog C114 := sndK (fn := Try.f114) ttOk (eC S115 (eC S142 eN)) (by kernel_rfl) (by kernel_rfl) (by kernel_rfl) (by kernel_rfl) k114
def g116 : Sg := ⟨[(.imm, (.sl c0)), (.imm, (.int .i64)), (.imm, (.int .i64))], [(.own true, (.sl c0)), (.imm, (.int .i64)), (.imm, .bool)]⟩
noncomputable def C116 : Ct := ⟨116, g116, fun k x => VF.spec_AddLate k x.1 x.2.1 x.2.2.1⟩
def h116 : HT := (.n .leaf (.j [] .leaf (.n .leaf (.j [(9, .one (.row true c0))] .leaf .leaf))))
noncomputable def e116 : List Ct := [C76, C77, C106]
theorem k116 (k : Nat) (x : g116.In) : evFn tt e116 k Try.f116 [0, 1, 2] h116 g116 x = C116.run k x := by kernel_rfl
theorem S116 : SoundC Try.prog C116 := sndK (fn := Try.f116) ttOk (eC S76 (eC S77 (eC S106 eN))) (by kernel_rfl) (by kernel_rfl) (by kernel_rfl) (by kernel_rfl) k116
def g86 : Sg := ⟨[(.own, c5), (.imm, c1)], [(.own true, c5), (.imm, (.int .i64))]⟩
noncomputable def C86 : Ct := ⟨86, g86, fun k x => VF.spec_l36Book k x.1 x.2.1⟩
def h86 : HT := (.n .leaf (.n .leaf (.n .leaf (.j [(2, .var [.row true c4, .int .i64, .row true c3]), (4, .var [.row true c4, .int .i64, .row true c3]), (6, .one (.int .i64))] (.n .leaf (.n .leaf (.n .leaf (.n .leaf (.n .leaf (.n .leaf (.n .leaf (.n .leaf (.n .leaf (.n .leaf (.n .leaf (.j [(2, .var [.row true c4, .int .i64, .row true c3]), (3, .var [.int .i64, .int .i64, .int .i64, .str, .int .i64, .int .i64, .int .i64]), (4, .var [.row true c4, .int .i64, .row true c3]), (8, .one (.int .i64)), (9, .one (.int .i64))] (.n .leaf (.l [(2, .var [.row true c4, .int .i64, .row true c3]), (3, .var [.int .i64, .int .i64, .int .i64, .str, .int .i64, .int .i64, .int .i64]), (4, .var [.row true c4, .int .i64, .row true c3]), (8, .one (.int .i64)), (9, .one (.int .i64)), (10, .one (.int .i64))] .leaf)) (.n .leaf (.n .leaf (.n .leaf (.j [(2, .var [.row true c4, .int .i64, .row true c3]), (3, .var [.int .i64, .int .i64, .int .i64, .str, .int .i64, .int .i64, .int .i64]), (4, .var [.row true c4, .int .i64, .row true c3]), (12, .one (.int .i64))] .leaf .leaf)))))))))))))))) .leaf))))
noncomputable def e86 : List Ct := [C112, C113, C114, C115, C116]
theorem k86 (k : Nat) (x : g86.In) : evFn tt e86 k Try.f86 [1] h86 g86 x = C86.run k x := by kernel_rfl
theorem S86 : SoundC Try.prog C86 := sndK (fn := Try.f86) ttOk (eC S112 (eC S113 (eC S114 (eC S115 (eC S116 eN))))) (by kernel_rfl) (by kernel_rfl) (by kernel_rfl) (by kernel_rfl) k86
def g57 : Sg := ⟨[(.imm, c5), (.imm, c1)], [(.own true, c5), (.imm, (.int .i64))]⟩
noncomputable def C57 : Ct := ⟨57, g57, fun k x => VF.spec_BookEvent k x.1 x.2.1⟩
def h57 : HT := (.n .leaf (.j [(2, .var [.sl c4, .int .i64, .sl c3]), (3, .var [.int .i64, .int .i64, .int .i64, .str, .int .i64, .int .i64, .int .i64]), (4, .var [.row true c4, .int .i64, .row true c3])] .leaf .leaf))
noncomputable def e57 : List Ct := [C43, C83, C85, C86]
theorem k57 (k : Nat) (x : g57.In) : evFn tt e57 k Try.f57 [0, 1] h57 g57 x = C57.run k x := by kernel_rfl
theorem S57 : SoundC Try.prog C57 := sndK (fn := Try.f57) ttOk (eC S43 (eC S83 (eC S85 (eC S86 eN)))) (by kernel_rfl) (by kernel_rfl) (by kernel_rfl) (by kernel_rfl) k57
def g22 : Sg := ⟨[(.imm, (.sl c1))], [(.own true, c5), (.own true, (.sl (.int .i64)))]⟩
noncomputable def C22 : Ct := ⟨22, g22, fun k x => VF.spec_BooksOf k x.1⟩
def h22 : HT := (.n .leaf (.n .leaf (.n .leaf (.n .leaf (.j [(2, .var [.row true c4, .int .i64, .row true c3]), (4, .var [.row true c4, .int .i64, .row true c3]), (5, .one (.row true (.int .i64)))] (.n .leaf (.l [(2, .var [.row true c4, .int .i64, .row true c3]), (4, .var [.row true c4, .int .i64, .row true c3]), (5, .one (.row true (.int .i64))), (6, .one (.row true c1)), (7, .one (.int .i64))] .leaf)) .leaf)))))
noncomputable def e22 : List Ct := [C56, C57]
theorem k22 (k : Nat) (x : g22.In) : evFn tt e22 k Try.f22 [0] h22 g22 x = C22.run k x := by kernel_rfl
theorem S22 : SoundC Try.prog C22 := sndK (fn := Try.f22) ttOk (eC S56 (eC S57 eN)) (by kernel_rfl) (by kernel_rfl) (by kernel_rfl) (by kernel_rfl) k22
def g58 : Sg := ⟨[(.imm, c1)], [(.imm, c1)]⟩
noncomputable def C58 : Ct := ⟨58, g58, fun k x => VF.laws_toEvent k x.1⟩
def h58 : HT := .leaf
noncomputable def e58 : List Ct := []
theorem k58 (k : Nat) (x : g58.In) : evFn tt e58 k Try.f58 [0] h58 g58 x = C58.run k x := by kernel_rfl
theorem S58 : SoundC Try.prog C58 := sndK (fn := Try.f58) ttOk eN (by kernel_rfl) (by kernel_rfl) (by kernel_rfl) (by kernel_rfl) k58
def g23 : Sg := ⟨[(.imm, (.sl c1))], [(.own true, (.sl c1))]⟩
noncomputable def C23 : Ct := ⟨23, g23, fun k x => VF.laws_toEventS k x.1⟩
def h23 : HT := (.n .leaf (.n .leaf (.j [(3, .one (.row true c1))] (.n .leaf (.l [(3, .one (.row true c1)), (4, .one (.int .i64))] .leaf)) .leaf)))
noncomputable def e23 : List Ct := [C58]
theorem k23 (k : Nat) (x : g23.In) : evFn tt e23 k Try.f23 [0] h23 g23 x = C23.run k x := by kernel_rfl
theorem S23 : SoundC Try.prog C23 := sndK (fn := Try.f23) ttOk (eC S58 eN) (by kernel_rfl) (by kernel_rfl) (by kernel_rfl) (by kernel_rfl) k23
def g25 : Sg := ⟨[(.imm, (.sl (.int .i64))), (.imm, (.sl (.int .i64)))], [(.imm, .bool)]⟩
noncomputable def C25 : Ct := ⟨25, g25, fun k x => VF.laws_eqIntS k x.1 x.2.1⟩
def h25 : HT := (.n .leaf (.n .leaf (.j [] (.n .leaf (.l [(5, .one (.int .i64))] .leaf)) .leaf)))
noncomputable def e25 : List Ct := []
theorem k25 (k : Nat) (x : g25.In) : evFn tt e25 k Try.f25 [0, 1] h25 g25 x = C25.run k x := by kernel_rfl
theorem S25 : SoundC Try.prog C25 := sndK (fn := Try.f25) ttOk eN (by kernel_rfl) (by kernel_rfl) (by kernel_rfl) (by kernel_rfl) k25
def g143 : Sg := ⟨[(.imm, c0), (.imm, c0)], [(.imm, .bool)]⟩
noncomputable def C143 : Ct := ⟨143, g143, fun k x => VF.laws_eqLayer k x.1 x.2.1⟩
def h143 : HT := .leaf
noncomputable def e143 : List Ct := []
theorem k143 (k : Nat) (x : g143.In) : evFn tt e143 k Try.f143 [0, 1] h143 g143 x = C143.run k x := by kernel_rfl
theorem S143 : SoundC Try.prog C143 := sndK (fn := Try.f143) ttOk eN (by kernel_rfl) (by kernel_rfl) (by kernel_rfl) (by kernel_rfl) k143
def g117 : Sg := ⟨[(.imm, (.sl c0)), (.imm, (.sl c0))], [(.imm, .bool)]⟩
noncomputable def C117 : Ct := ⟨117, g117, fun k x => VF.laws_eqLayerS k x.1 x.2.1⟩
def h117 : HT := (.n .leaf (.n .leaf (.j [] (.n .leaf (.l [(5, .one (.int .i64))] .leaf)) .leaf)))
noncomputable def e117 : List Ct := [C143]
theorem k117 (k : Nat) (x : g117.In) : evFn tt e117 k Try.f117 [0, 1] h117 g117 x = C117.run k x := by kernel_rfl
theorem S117 : SoundC Try.prog C117 := sndK (fn := Try.f117) ttOk (eC S143 eN) (by kernel_rfl) (by kernel_rfl) (by kernel_rfl) (by kernel_rfl) k117
def g87 : Sg := ⟨[(.imm, c4), (.imm, c4)], [(.imm, .bool)]⟩
noncomputable def C87 : Ct := ⟨87, g87, fun k x => VF.laws_eqShelf k x.1 x.2.1⟩
def h87 : HT := .leaf
noncomputable def e87 : List Ct := [C25, C117]
theorem k87 (k : Nat) (x : g87.In) : evFn tt e87 k Try.f87 [0, 1] h87 g87 x = C87.run k x := by kernel_rfl
theorem S87 : SoundC Try.prog C87 := sndK (fn := Try.f87) ttOk (eC S25 (eC S117 eN)) (by kernel_rfl) (by kernel_rfl) (by kernel_rfl) (by kernel_rfl) k87
def g59 : Sg := ⟨[(.imm, (.sl c4)), (.imm, (.sl c4))], [(.imm, .bool)]⟩
noncomputable def C59 : Ct := ⟨59, g59, fun k x => VF.laws_eqShelfS k x.1 x.2.1⟩
def h59 : HT := (.n .leaf (.n .leaf (.j [] (.n .leaf (.l [(5, .one (.int .i64))] .leaf)) .leaf)))
noncomputable def e59 : List Ct := [C87]
theorem k59 (k : Nat) (x : g59.In) : evFn tt e59 k Try.f59 [0, 1] h59 g59 x = C59.run k x := by kernel_rfl
theorem S59 : SoundC Try.prog C59 := sndK (fn := Try.f59) ttOk (eC S87 eN) (by kernel_rfl) (by kernel_rfl) (by kernel_rfl) (by kernel_rfl) k59
def g144 : Sg := ⟨[(.imm, c2), (.imm, c2)], [(.imm, .bool)]⟩
noncomputable def C144 : Ct := ⟨144, g144, fun k x => VF.laws_eqEntry k x.1 x.2.1⟩
def h144 : HT := .leaf
noncomputable def e144 : List Ct := []
theorem k144 (k : Nat) (x : g144.In) : evFn tt e144 k Try.f144 [0, 1] h144 g144 x = C144.run k x := by kernel_rfl
theorem S144 : SoundC Try.prog C144 := sndK (fn := Try.f144) ttOk eN (by kernel_rfl) (by kernel_rfl) (by kernel_rfl) (by kernel_rfl) k144
def g118 : Sg := ⟨[(.imm, (.sl c2)), (.imm, (.sl c2))], [(.imm, .bool)]⟩
noncomputable def C118 : Ct := ⟨118, g118, fun k x => VF.laws_eqEntryS k x.1 x.2.1⟩
def h118 : HT := (.n .leaf (.n .leaf (.j [] (.n .leaf (.l [(5, .one (.int .i64))] .leaf)) .leaf)))
noncomputable def e118 : List Ct := [C144]
theorem k118 (k : Nat) (x : g118.In) : evFn tt e118 k Try.f118 [0, 1] h118 g118 x = C118.run k x := by kernel_rfl
theorem S118 : SoundC Try.prog C118 := sndK (fn := Try.f118) ttOk (eC S144 eN) (by kernel_rfl) (by kernel_rfl) (by kernel_rfl) (by kernel_rfl) k118
def g88 : Sg := ⟨[(.imm, c3), (.imm, c3)], [(.imm, .bool)]⟩
noncomputable def C88 : Ct := ⟨88, g88, fun k x => VF.laws_eqDocument k x.1 x.2.1⟩
def h88 : HT := .leaf
noncomputable def e88 : List Ct := [C118]
theorem k88 (k : Nat) (x : g88.In) : evFn tt e88 k Try.f88 [0, 1] h88 g88 x = C88.run k x := by kernel_rfl
theorem S88 : SoundC Try.prog C88 := sndK (fn := Try.f88) ttOk (eC S118 eN) (by kernel_rfl) (by kernel_rfl) (by kernel_rfl) (by kernel_rfl) k88
def g60 : Sg := ⟨[(.imm, (.sl c3)), (.imm, (.sl c3))], [(.imm, .bool)]⟩
noncomputable def C60 : Ct := ⟨60, g60, fun k x => VF.laws_eqDocumentS k x.1 x.2.1⟩
def h60 : HT := (.n .leaf (.n .leaf (.j [] (.n .leaf (.l [(5, .one (.int .i64))] .leaf)) .leaf)))
noncomputable def e60 : List Ct := [C88]
theorem k60 (k : Nat) (x : g60.In) : evFn tt e60 k Try.f60 [0, 1] h60 g60 x = C60.run k x := by kernel_rfl
theorem S60 : SoundC Try.prog C60 := sndK (fn := Try.f60) ttOk (eC S88 eN) (by kernel_rfl) (by kernel_rfl) (by kernel_rfl) (by kernel_rfl) k60
def g24 : Sg := ⟨[(.imm, c5), (.imm, c5)], [(.imm, .bool)]⟩
noncomputable def C24 : Ct := ⟨24, g24, fun k x => VF.laws_eqBooks k x.1 x.2.1⟩
def h24 : HT := .leaf
noncomputable def e24 : List Ct := [C59, C60]
theorem k24 (k : Nat) (x : g24.In) : evFn tt e24 k Try.f24 [0, 1] h24 g24 x = C24.run k x := by kernel_rfl
theorem S24 : SoundC Try.prog C24 := sndK (fn := Try.f24) ttOk (eC S59 (eC S60 eN)) (by kernel_rfl) (by kernel_rfl) (by kernel_rfl) (by kernel_rfl) k24
def g61 : Sg := ⟨[(.imm, c1), (.imm, c1)], [(.imm, .bool)]⟩
noncomputable def C61 : Ct := ⟨61, g61, fun k x => VF.laws_eqEvent k x.1 x.2.1⟩
def h61 : HT := .leaf
noncomputable def e61 : List Ct := []
theorem k61 (k : Nat) (x : g61.In) : evFn tt e61 k Try.f61 [0, 1] h61 g61 x = C61.run k x := by kernel_rfl
theorem S61 : SoundC Try.prog C61 := sndK (fn := Try.f61) ttOk eN (by kernel_rfl) (by kernel_rfl) (by kernel_rfl) (by kernel_rfl) k61
def g26 : Sg := ⟨[(.imm, (.sl c1)), (.imm, (.sl c1))], [(.imm, .bool)]⟩
noncomputable def C26 : Ct := ⟨26, g26, fun k x => VF.laws_eqEventS k x.1 x.2.1⟩
def h26 : HT := (.n .leaf (.n .leaf (.j [] (.n .leaf (.l [(5, .one (.int .i64))] .leaf)) .leaf)))
noncomputable def e26 : List Ct := [C61]
theorem k26 (k : Nat) (x : g26.In) : evFn tt e26 k Try.f26 [0, 1] h26 g26 x = C26.run k x := by kernel_rfl
theorem S26 : SoundC Try.prog C26 := sndK (fn := Try.f26) ttOk (eC S61 eN) (by kernel_rfl) (by kernel_rfl) (by kernel_rfl) (by kernel_rfl) k26
def g62 : Sg := ⟨[(.imm, (.int .i64))], [(.imm, .str)]⟩
noncomputable def C62 : Ct := ⟨62, g62, fun k x => VF.laws_markText k x.1⟩
def h62 : HT := (.n .leaf (.n .leaf (.n .leaf (.j [(3, .one (.str))] (.l [(0, .one (.int .i64)), (3, .one (.str))] .leaf) .leaf))))
noncomputable def e62 : List Ct := []
theorem k62 (k : Nat) (x : g62.In) : evFn tt e62 k Try.f62 [] h62 g62 x = C62.run k x := by kernel_rfl
theorem S62 : SoundC Try.prog C62 := sndK (fn := Try.f62) ttOk eN (by kernel_rfl) (by kernel_rfl) (by kernel_rfl) (by kernel_rfl) k62
def g27 : Sg := ⟨[(.mut, (.sl c1)), (.imm, (.int .i64))], [(.imm, (.int .i64))]⟩
noncomputable def C27 : Ct := ⟨27, g27, fun k x => VF.laws_markEventS k x.1 x.2.1⟩
def h27 : HT := (.n .leaf (.j [(0, .pm (.sl c1)), (1, .one (.int .i64))] (.n .leaf (.l [(0, .pm (.sl c1)), (1, .one (.int .i64)), (5, .one (.int .i64))] (.n .leaf (.n (.j [(0, .pm (.sl c1)), (1, .one (.int .i64)), (5, .one (.int .i64))] .leaf (.n .leaf (.j [(0, .pm (.sl c1)), (1, .one (.int .i64)), (5, .one (.int .i64))] .leaf (.n .leaf (.j [(0, .pm (.sl c1)), (1, .one (.int .i64)), (5, .one (.int .i64))] .leaf (.n .leaf (.j [(0, .pm (.sl c1)), (1, .one (.int .i64)), (5, .one (.int .i64))] .leaf (.n .leaf (.j [(0, .pm (.sl c1)), (1, .one (.int .i64)), (5, .one (.int .i64))] .leaf (.n .leaf (.j [(0, .pm (.sl c1)), (1, .one (.int .i64)), (5, .one (.int .i64))] .leaf .leaf))))))))))) .leaf)))) .leaf))
noncomputable def e27 : List Ct := [C62]
theorem k27 (k : Nat) (x : g27.In) : evFn tt e27 k Try.f27 [0] h27 g27 x = C27.run k x := by kernel_rfl
theorem S27 : SoundC Try.prog C27 := sndK (fn := Try.f27) ttOk (eC S62 eN) (by kernel_rfl) (by kernel_rfl) (by kernel_rfl) (by kernel_rfl) k27
def g29 : Sg := ⟨[(.mut, (.sl (.int .i64))), (.imm, (.int .i64))], [(.imm, (.int .i64))]⟩
noncomputable def C29 : Ct := ⟨29, g29, fun k x => VF.laws_markIntS k x.1 x.2.1⟩
def h29 : HT := (.n .leaf (.j [(0, .pm (.sl (.int .i64))), (1, .one (.int .i64))] (.n .leaf (.l [(0, .pm (.sl (.int .i64))), (1, .one (.int .i64)), (5, .one (.int .i64))] .leaf)) .leaf))
noncomputable def e29 : List Ct := []
theorem k29 (k : Nat) (x : g29.In) : evFn tt e29 k Try.f29 [0] h29 g29 x = C29.run k x := by kernel_rfl
theorem S29 : SoundC Try.prog C29 := sndK (fn := Try.f29) ttOk eN (by kernel_rfl) (by kernel_rfl) (by kernel_rfl) (by kernel_rfl) k29
def g89 : Sg := ⟨[(.mut, (.sl c0)), (.imm, (.int .i64))], [(.imm, (.int .i64))]⟩
noncomputable def C89 : Ct := ⟨89, g89, fun k x => VF.laws_markLayerS k x.1 x.2.1⟩
def h89 : HT := (.n .leaf (.j [(0, .pm (.sl c0)), (1, .one (.int .i64))] (.n .leaf (.l [(0, .pm (.sl c0)), (1, .one (.int .i64)), (5, .one (.int .i64))] (.n .leaf (.n (.j [(0, .pm (.sl c0)), (1, .one (.int .i64)), (5, .one (.int .i64))] .leaf (.n .leaf (.j [(0, .pm (.sl c0)), (1, .one (.int .i64)), (5, .one (.int .i64))] .leaf .leaf))) .leaf)))) .leaf))
noncomputable def e89 : List Ct := []
theorem k89 (k : Nat) (x : g89.In) : evFn tt e89 k Try.f89 [0] h89 g89 x = C89.run k x := by kernel_rfl
theorem S89 : SoundC Try.prog C89 := sndK (fn := Try.f89) ttOk eN (by kernel_rfl) (by kernel_rfl) (by kernel_rfl) (by kernel_rfl) k89
def g63 : Sg := ⟨[(.mut, (.sl c4)), (.imm, (.int .i64))], [(.imm, (.int .i64))]⟩
noncomputable def C63 : Ct := ⟨63, g63, fun k x => VF.laws_markShelfS k x.1 x.2.1⟩
def h63 : HT := (.n .leaf (.j [(0, .pm (.sl c4)), (1, .one (.int .i64))] (.n .leaf (.l [(0, .pm (.sl c4)), (1, .one (.int .i64)), (5, .one (.int .i64))] (.n .leaf (.n (.j [(0, .pm (.sl c4)), (1, .one (.int .i64)), (5, .one (.int .i64))] .leaf .leaf) .leaf)))) .leaf))
noncomputable def e63 : List Ct := [C29, C62, C89]
theorem k63 (k : Nat) (x : g63.In) : evFn tt e63 k Try.f63 [0] h63 g63 x = C63.run k x := by kernel_rfl
theorem S63 : SoundC Try.prog C63 := sndK (fn := Try.f63) ttOk (eC S29 (eC S62 (eC S89 eN))) (by kernel_rfl) (by kernel_rfl) (by kernel_rfl) (by kernel_rfl) k63
def g90 : Sg := ⟨[(.mut, (.sl c2)), (.imm, (.int .i64))], [(.imm, (.int .i64))]⟩
noncomputable def C90 : Ct := ⟨90, g90, fun k x => VF.laws_markEntryS k x.1 x.2.1⟩
def h90 : HT := (.n .leaf (.j [(0, .pm (.sl c2)), (1, .one (.int .i64))] (.n .leaf (.l [(0, .pm (.sl c2)), (1, .one (.int .i64)), (5, .one (.int .i64))] (.n .leaf (.n (.j [(0, .pm (.sl c2)), (1, .one (.int .i64)), (5, .one (.int .i64))] .leaf .leaf) .leaf)))) .leaf))
noncomputable def e90 : List Ct := [C62]
theorem k90 (k : Nat) (x : g90.In) : evFn tt e90 k Try.f90 [0] h90 g90 x = C90.run k x := by kernel_rfl
theorem S90 : SoundC Try.prog C90 := sndK (fn := Try.f90) ttOk (eC S62 eN) (by kernel_rfl) (by kernel_rfl) (by kernel_rfl) (by kernel_rfl) k90
def g64 : Sg := ⟨[(.mut, (.sl c3)), (.imm, (.int .i64))], [(.imm, (.int .i64))]⟩
noncomputable def C64 : Ct := ⟨64, g64, fun k x => VF.laws_markDocumentS k x.1 x.2.1⟩
def h64 : HT := (.n .leaf (.j [(0, .pm (.sl c3)), (1, .one (.int .i64))] (.n .leaf (.l [(0, .pm (.sl c3)), (1, .one (.int .i64)), (5, .one (.int .i64))] (.n .leaf (.n (.j [(0, .pm (.sl c3)), (1, .one (.int .i64)), (5, .one (.int .i64))] .leaf (.n .leaf (.j [(0, .pm (.sl c3)), (1, .one (.int .i64)), (5, .one (.int .i64))] .leaf .leaf))) .leaf)))) .leaf))
noncomputable def e64 : List Ct := [C90]
theorem k64 (k : Nat) (x : g64.In) : evFn tt e64 k Try.f64 [0] h64 g64 x = C64.run k x := by kernel_rfl
theorem S64 : SoundC Try.prog C64 := sndK (fn := Try.f64) ttOk (eC S90 eN) (by kernel_rfl) (by kernel_rfl) (by kernel_rfl) (by kernel_rfl) k64
def g28 : Sg := ⟨[(.mut, c5), (.imm, (.int .i64))], [(.imm, (.int .i64))]⟩
noncomputable def C28 : Ct := ⟨28, g28, fun k x => VF.laws_markBooks k x.1 x.2.1⟩
def h28 : HT := .leaf
noncomputable def e28 : List Ct := [C63, C64]
theorem k28 (k : Nat) (x : g28.In) : evFn tt e28 k Try.f28 [0] h28 g28 x = C28.run k x := by kernel_rfl
theorem S28 : SoundC Try.prog C28 := sndK (fn := Try.f28) ttOk (eC S63 (eC S64 eN)) (by kernel_rfl) (by kernel_rfl) (by kernel_rfl) (by kernel_rfl) k28
def g31 : Sg := ⟨[(.imm, (.sl (.int .i64))), (.imm, (.int .i64))], [(.imm, (.int .i64))]⟩
noncomputable def C31 : Ct := ⟨31, g31, fun k x => VF.laws_heldIntS k x.1 x.2.1⟩
def h31 : HT := (.n .leaf (.j [(1, .one (.int .i64))] (.n .leaf (.l [(1, .one (.int .i64)), (5, .one (.int .i64))] .leaf)) .leaf))
noncomputable def e31 : List Ct := []
theorem k31 (k : Nat) (x : g31.In) : evFn tt e31 k Try.f31 [0] h31 g31 x = C31.run k x := by kernel_rfl
theorem S31 : SoundC Try.prog C31 := sndK (fn := Try.f31) ttOk eN (by kernel_rfl) (by kernel_rfl) (by kernel_rfl) (by kernel_rfl) k31
def g91 : Sg := ⟨[(.imm, (.sl c0)), (.imm, (.int .i64))], [(.imm, (.int .i64))]⟩
noncomputable def C91 : Ct := ⟨91, g91, fun k x => VF.laws_heldLayerS k x.1 x.2.1⟩
def h91 : HT := (.n .leaf (.j [(1, .one (.int .i64))] (.n .leaf (.l [(1, .one (.int .i64)), (5, .one (.int .i64))] .leaf)) .leaf))
noncomputable def e91 : List Ct := []
theorem k91 (k : Nat) (x : g91.In) : evFn tt e91 k Try.f91 [0] h91 g91 x = C91.run k x := by kernel_rfl
theorem S91 : SoundC Try.prog C91 := sndK (fn := Try.f91) ttOk eN (by kernel_rfl) (by kernel_rfl) (by kernel_rfl) (by kernel_rfl) k91
def g65 : Sg := ⟨[(.imm, (.sl c4)), (.imm, (.int .i64))], [(.imm, (.int .i64))]⟩
noncomputable def C65 : Ct := ⟨65, g65, fun k x => VF.laws_heldShelfS k x.1 x.2.1⟩
def h65 : HT := (.n .leaf (.j [(1, .one (.int .i64))] (.n .leaf (.l [(1, .one (.int .i64)), (5, .one (.int .i64))] .leaf)) .leaf))
noncomputable def e65 : List Ct := [C31, C62, C91]
theorem k65 (k : Nat) (x : g65.In) : evFn tt e65 k Try.f65 [0] h65 g65 x = C65.run k x := by kernel_rfl
theorem S65 : SoundC Try.prog C65 := sndK (fn := Try.f65) ttOk (eC S31 (eC S62 (eC S91 eN))) (by kernel_rfl) (by kernel_rfl) (by kernel_rfl) (by kernel_rfl) k65
def g92 : Sg := ⟨[(.imm, (.sl c2)), (.imm, (.int .i64))], [(.imm, (.int .i64))]⟩
noncomputable def C92 : Ct := ⟨92, g92, fun k x => VF.laws_heldEntryS k x.1 x.2.1⟩
def h92 : HT := (.n .leaf (.j [(1, .one (.int .i64))] (.n .leaf (.l [(1, .one (.int .i64)), (5, .one (.int .i64))] .leaf)) .leaf))
noncomputable def e92 : List Ct := [C62]
theorem k92 (k : Nat) (x : g92.In) : evFn tt e92 k Try.f92 [0] h92 g92 x = C92.run k x := by kernel_rfl
theorem S92 : SoundC Try.prog C92 := sndK (fn := Try.f92) ttOk (eC S62 eN) (by kernel_rfl) (by kernel_rfl) (by kernel_rfl) (by kernel_rfl) k92
def g66 : Sg := ⟨[(.imm, (.sl c3)), (.imm, (.int .i64))], [(.imm, (.int .i64))]⟩
noncomputable def C66 : Ct := ⟨66, g66, fun k x => VF.laws_heldDocumentS k x.1 x.2.1⟩
def h66 : HT := (.n .leaf (.j [(1, .one (.int .i64))] (.n .leaf (.l [(1, .one (.int .i64)), (5, .one (.int .i64))] .leaf)) .leaf))
noncomputable def e66 : List Ct := [C92]
theorem k66 (k : Nat) (x : g66.In) : evFn tt e66 k Try.f66 [0] h66 g66 x = C66.run k x := by kernel_rfl
theorem S66 : SoundC Try.prog C66 := sndK (fn := Try.f66) ttOk (eC S92 eN) (by kernel_rfl) (by kernel_rfl) (by kernel_rfl) (by kernel_rfl) k66
def g30 : Sg := ⟨[(.imm, c5), (.imm, (.int .i64))], [(.imm, (.int .i64))]⟩
noncomputable def C30 : Ct := ⟨30, g30, fun k x => VF.laws_heldBooks k x.1 x.2.1⟩
def h30 : HT := .leaf
noncomputable def e30 : List Ct := [C65, C66]
theorem k30 (k : Nat) (x : g30.In) : evFn tt e30 k Try.f30 [0] h30 g30 x = C30.run k x := by kernel_rfl
theorem S30 : SoundC Try.prog C30 := sndK (fn := Try.f30) ttOk (eC S65 (eC S66 eN)) (by kernel_rfl) (by kernel_rfl) (by kernel_rfl) (by kernel_rfl) k30
def g5 : Sg := ⟨[(.imm, (.sl c1))], [(.imm, .bool)]⟩
noncomputable def C5 : Ct := ⟨5, g5, fun k x => VF.laws_FnExactBooksOf k x.1⟩
def h5 : HT := (.n .leaf (.n .leaf (.n .leaf (.n .leaf (.n .leaf (.n .leaf (.n .leaf (.j [(4, .var [.row true c4, .int .i64, .row true c3]), (5, .one (.row true (.int .i64))), (6, .one (.row true c1)), (7, .var [.row true c4, .int .i64, .row true c3]), (8, .one (.row true (.int .i64)))] .leaf (.n .leaf (.n .leaf (.n .leaf (.j [(4, .var [.row true c4, .int .i64, .row true c3]), (5, .one (.row true (.int .i64))), (7, .var [.row true c4, .int .i64, .row true c3]), (8, .one (.row true (.int .i64)))] .leaf (.n .leaf (.n .leaf (.n .leaf (.n .leaf (.n .leaf (.n .leaf (.n .leaf (.n .leaf (.n .leaf (.n .leaf (.j [(7, .var [.row true c4, .int .i64, .row true c3]), (8, .one (.row true (.int .i64))), (10, .one (.int .i64))] .leaf .leaf)))))))))))))))))))))))
noncomputable def e5 : List Ct := [C8, C21, C22, C23, C24, C25, C26, C27, C28, C29, C30, C31]
theorem k5 (k : Nat) (x : g5.In) : evFn tt e5 k Try.f5 [0] h5 g5 x = C5.run k x := by kernel_rfl
theorem S5 : SoundC Try.prog C5 := sndK (fn := Try.f5) ttOk (eC S8 (eC S21 (eC S22 (eC S23 (eC S24 (eC S25 (eC S26 (eC S27 (eC S28 (eC S29 (eC S30 (eC S31 eN)))))))))))) (by kernel_rfl) (by kernel_rfl) (by kernel_rfl) (by kernel_rfl) k5
