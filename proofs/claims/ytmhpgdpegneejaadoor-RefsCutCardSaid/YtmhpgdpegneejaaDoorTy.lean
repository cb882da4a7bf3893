/- Facts on the types of the translation, off its own tables: sizes, zeros, fields. -/
import Derived.Test.YtmhpgdpegneejaaDoorProg
import Derived.Test.YtmhpgdpegneejaaDoorSl7
import Derived.KernelRfl
namespace Go.Proofs.YtmhpgdpegneejaaDoor
open Go Go.Proofs Go.Proofs.Slx
theorem B117 : strT Tryd.prog 117 = some (#[(0, 1), (1, 1), (2, 1), (3, 1), (4, 1), (5, 1)], Go.Value.agg   #[Go.Value.pointer none, Go.Value.string { data := #[] }, Go.Value.slice none 0 0, Go.Value.slice none 0 0,     Go.Value.int Go.IntKind.i64 0, Go.Value.bool false]) := by kernel_rfl
theorem B126 : strT Tryd.prog 126 = some (#[(0, 1), (1, 1)], Go.Value.agg #[Go.Value.int Go.IntKind.i64 0, Go.Value.int Go.IntKind.i64 0]) := by kernel_rfl
theorem B132 : strT Tryd.prog 132 = some (#[(0, 1), (1, 1), (2, 1)], Go.Value.agg #[Go.Value.bool false, Go.Value.slice none 0 0, Go.Value.int Go.IntKind.i64 0]) := by kernel_rfl
theorem B134 : strT Tryd.prog 134 = some (#[(0, 3)], Go.Value.agg #[Go.Value.bool false, Go.Value.slice none 0 0, Go.Value.int Go.IntKind.i64 0]) := by kernel_rfl
theorem B139 : strT Tryd.prog 139 = some (#[(0, 1), (1, 1)], Go.Value.agg #[Go.Value.int Go.IntKind.i64 0, Go.Value.int Go.IntKind.i64 0]) := by kernel_rfl
theorem B29 : strT Tryd.prog 29 = some (#[(0, 1), (1, 1)], Go.Value.agg #[Go.Value.pointer none, Go.Value.pointer none]) := by kernel_rfl
theorem B48 : strT Tryd.prog 48 = some (#[(0, 1), (1, 1)], Go.Value.agg #[Go.Value.string { data := #[] }, Go.Value.int Go.IntKind.u64 0]) := by kernel_rfl
theorem B70 : strT Tryd.prog 70 = some (#[(0, 1), (1, 1), (2, 1), (3, 1)], Go.Value.agg #[Go.Value.map none, Go.Value.int Go.IntKind.i64 0, Go.Value.int Go.IntKind.i64 0, Go.Value.bool false]) := by kernel_rfl
theorem B73 : strT Tryd.prog 73 = some (#[(0, 1), (1, 1), (2, 1)], Go.Value.agg #[Go.Value.slice none 0 0, Go.Value.int Go.IntKind.i64 0, Go.Value.int Go.IntKind.i64 0]) := by kernel_rfl
theorem B76 : strT Tryd.prog 76 = some (#[(0, 1), (1, 1)], Go.Value.agg #[Go.Value.string { data := #[] }, Go.Value.slice none 0 0]) := by kernel_rfl
theorem B91 : strT Tryd.prog 91 = some (#[(0, 1), (1, 1)], Go.Value.agg #[Go.Value.map none, Go.Value.pointer none]) := by kernel_rfl
theorem F117_0 : fld Tryd.prog 117 0 = some (0, 24) := by kernel_rfl
theorem F117_1 : fld Tryd.prog 117 1 = some (1, 9) := by kernel_rfl
theorem F117_2 : fld Tryd.prog 117 2 = some (2, 32) := by kernel_rfl
theorem F117_3 : fld Tryd.prog 117 3 = some (3, 115) := by kernel_rfl
theorem F117_4 : fld Tryd.prog 117 4 = some (4, 3) := by kernel_rfl
theorem F117_5 : fld Tryd.prog 117 5 = some (5, 4) := by kernel_rfl
theorem F126_0 : fld Tryd.prog 126 0 = some (0, 40) := by kernel_rfl
theorem F126_1 : fld Tryd.prog 126 1 = some (1, 3) := by kernel_rfl
theorem F132_0 : fld Tryd.prog 132 0 = some (0, 4) := by kernel_rfl
theorem F132_1 : fld Tryd.prog 132 1 = some (1, 32) := by kernel_rfl
theorem F132_2 : fld Tryd.prog 132 2 = some (2, 40) := by kernel_rfl
theorem F134_0 : fld Tryd.prog 134 0 = some (0, 132) := by kernel_rfl
theorem F139_0 : fld Tryd.prog 139 0 = some (0, 3) := by kernel_rfl
theorem F139_1 : fld Tryd.prog 139 1 = some (1, 3) := by kernel_rfl
theorem F29_0 : fld Tryd.prog 29 0 = some (0, 24) := by kernel_rfl
theorem F29_1 : fld Tryd.prog 29 1 = some (1, 26) := by kernel_rfl
theorem F34_0 : fld Tryd.prog 34 0 = some (0, 3) := by kernel_rfl
theorem F34_1 : fld Tryd.prog 34 1 = some (1, 9) := by kernel_rfl
theorem F34_2 : fld Tryd.prog 34 2 = some (2, 9) := by kernel_rfl
theorem F34_3 : fld Tryd.prog 34 3 = some (3, 3) := by kernel_rfl
theorem F34_4 : fld Tryd.prog 34 4 = some (4, 32) := by kernel_rfl
theorem F48_0 : fld Tryd.prog 48 0 = some (0, 9) := by kernel_rfl
theorem F48_1 : fld Tryd.prog 48 1 = some (1, 46) := by kernel_rfl
theorem F70_0 : fld Tryd.prog 70 0 = some (0, 68) := by kernel_rfl
theorem F70_1 : fld Tryd.prog 70 1 = some (1, 3) := by kernel_rfl
theorem F70_2 : fld Tryd.prog 70 2 = some (2, 3) := by kernel_rfl
theorem F70_3 : fld Tryd.prog 70 3 = some (3, 4) := by kernel_rfl
theorem F73_0 : fld Tryd.prog 73 0 = some (0, 71) := by kernel_rfl
theorem F73_1 : fld Tryd.prog 73 1 = some (1, 3) := by kernel_rfl
theorem F73_2 : fld Tryd.prog 73 2 = some (2, 3) := by kernel_rfl
theorem F76_0 : fld Tryd.prog 76 0 = some (0, 9) := by kernel_rfl
theorem F76_1 : fld Tryd.prog 76 1 = some (1, 32) := by kernel_rfl
theorem F91_0 : fld Tryd.prog 91 0 = some (0, 43) := by kernel_rfl
theorem F91_1 : fld Tryd.prog 91 1 = some (1, 87) := by kernel_rfl
theorem G126 : TyG Tryd.prog 126 2 16 (Go.Value.agg #[Go.Value.int Go.IntKind.i64 0, Go.Value.int Go.IntKind.i64 0]) := TyG.mk (by kernel_rfl)
theorem G139 : TyG Tryd.prog 139 2 16 (Go.Value.agg #[Go.Value.int Go.IntKind.i64 0, Go.Value.int Go.IntKind.i64 0]) := TyG.mk (by kernel_rfl)
theorem G29 : TyG Tryd.prog 29 2 16 (Go.Value.agg #[Go.Value.pointer none, Go.Value.pointer none]) := TyG.mk (by kernel_rfl)
theorem G34 : TyG Tryd.prog 34 5 72 (Go.Value.agg   #[Go.Value.int Go.IntKind.i64 0, Go.Value.string { data := #[] }, Go.Value.string { data := #[] },     Go.Value.int Go.IntKind.i64 0, Go.Value.slice none 0 0]) := TyG.mk (by kernel_rfl)
theorem G48 : TyG Tryd.prog 48 2 24 (Go.Value.agg #[Go.Value.string { data := #[] }, Go.Value.int Go.IntKind.u64 0]) := TyG.mk (by kernel_rfl)
theorem G76 : TyG Tryd.prog 76 2 40 (Go.Value.agg #[Go.Value.string { data := #[] }, Go.Value.slice none 0 0]) := TyG.mk (by kernel_rfl)
theorem K9 : KeyT Tryd.prog 9 ByteArray strK := keyT_string Tryd.underlying9
theorem N115 : noInt Tryd.prog 115 := .inl ⟨_, Tryd.underlying115⟩
theorem N22 : noInt Tryd.prog 22 := .inl ⟨_, Tryd.underlying22⟩
theorem N32 : noInt Tryd.prog 32 := .inl ⟨_, Tryd.underlying32⟩
theorem N38 : noInt Tryd.prog 38 := .inl ⟨_, Tryd.underlying38⟩
theorem N71 : noInt Tryd.prog 71 := .inl ⟨_, Tryd.underlying71⟩
theorem N77 : noInt Tryd.prog 77 := .inl ⟨_, Tryd.underlying77⟩
theorem N9 : noInt Tryd.prog 9 := .inr Tryd.underlying9
theorem S115 : Sz Tryd.prog 115 1 24 (Go.Value.slice none 0 0) := by unfold Sz; kernel_rfl
theorem S126 : Sz Tryd.prog 126 2 16 (Go.Value.agg #[Go.Value.int Go.IntKind.i64 0, Go.Value.int Go.IntKind.i64 0]) := by unfold Sz; kernel_rfl
theorem S132 : Sz Tryd.prog 132 3 40 (Go.Value.agg #[Go.Value.bool false, Go.Value.slice none 0 0, Go.Value.int Go.IntKind.i64 0]) := by unfold Sz; kernel_rfl
theorem S139 : Sz Tryd.prog 139 2 16 (Go.Value.agg #[Go.Value.int Go.IntKind.i64 0, Go.Value.int Go.IntKind.i64 0]) := by unfold Sz; kernel_rfl
theorem S21 : Sz Tryd.prog 21 1 4 (Go.Value.int Go.IntKind.i32 0) := by unfold Sz; kernel_rfl
theorem S24 : Sz Tryd.prog 24 1 8 (Go.Value.pointer none) := by unfold Sz; kernel_rfl
theorem S26 : Sz Tryd.prog 26 1 8 (Go.Value.pointer none) := by unfold Sz; kernel_rfl
theorem S29 : Sz Tryd.prog 29 2 16 (Go.Value.agg #[Go.Value.pointer none, Go.Value.pointer none]) := by unfold Sz; kernel_rfl
theorem S3 : Sz Tryd.prog 3 1 8 (Go.Value.int Go.IntKind.i64 0) := by unfold Sz; kernel_rfl
theorem S30 : Sz Tryd.prog 30 4 32 (Go.Value.agg #[Go.Value.pointer none, Go.Value.pointer none, Go.Value.pointer none, Go.Value.pointer none]) := by unfold Sz; kernel_rfl
theorem S32 : Sz Tryd.prog 32 1 24 (Go.Value.slice none 0 0) := by unfold Sz; kernel_rfl
theorem S34 : Sz Tryd.prog 34 5 72 (Go.Value.agg   #[Go.Value.int Go.IntKind.i64 0, Go.Value.string { data := #[] }, Go.Value.string { data := #[] },     Go.Value.int Go.IntKind.i64 0, Go.Value.slice none 0 0]) := by unfold Sz; kernel_rfl
theorem S38 : Sz Tryd.prog 38 1 24 (Go.Value.slice none 0 0) := by unfold Sz; kernel_rfl
theorem S39 : Sz Tryd.prog 39 1 8 (Go.Value.pointer none) := by unfold Sz; kernel_rfl
theorem S4 : Sz Tryd.prog 4 1 1 (Go.Value.bool false) := by unfold Sz; kernel_rfl
theorem S40 : Sz Tryd.prog 40 1 8 (Go.Value.int Go.IntKind.i64 0) := by unfold Sz; kernel_rfl
theorem S43 : Sz Tryd.prog 43 1 8 (Go.Value.map none) := by unfold Sz; kernel_rfl
theorem S46 : Sz Tryd.prog 46 1 8 (Go.Value.int Go.IntKind.u64 0) := by unfold Sz; kernel_rfl
theorem S48 : Sz Tryd.prog 48 2 24 (Go.Value.agg #[Go.Value.string { data := #[] }, Go.Value.int Go.IntKind.u64 0]) := by unfold Sz; kernel_rfl
theorem S5 : Sz Tryd.prog 5 1 1 (Go.Value.int Go.IntKind.u8 0) := by unfold Sz; kernel_rfl
theorem S68 : Sz Tryd.prog 68 1 8 (Go.Value.map none) := by unfold Sz; kernel_rfl
theorem S71 : Sz Tryd.prog 71 1 24 (Go.Value.slice none 0 0) := by unfold Sz; kernel_rfl
theorem S76 : Sz Tryd.prog 76 2 40 (Go.Value.agg #[Go.Value.string { data := #[] }, Go.Value.slice none 0 0]) := by unfold Sz; kernel_rfl
theorem S77 : Sz Tryd.prog 77 1 24 (Go.Value.slice none 0 0) := by unfold Sz; kernel_rfl
theorem S87 : Sz Tryd.prog 87 1 8 (Go.Value.pointer none) := by unfold Sz; kernel_rfl
theorem S9 : Sz Tryd.prog 9 1 16 (Go.Value.string { data := #[] }) := by unfold Sz; kernel_rfl
theorem T115 : Ty Tryd.prog 115 (Go.TypeDesc.slice 139) 1 24 (Go.Value.slice none 0 0) := Ty.mk (by kernel_rfl)
theorem T118 : Ty Tryd.prog 118 (Go.TypeDesc.pointer 134) 1 8 (Go.Value.pointer none) := Ty.mk (by kernel_rfl)
theorem T21 : Ty Tryd.prog 21 (Go.TypeDesc.int Go.IntKind.i32) 1 4 (Go.Value.int Go.IntKind.i32 0) := Ty.mk (by kernel_rfl)
theorem T22 : Ty Tryd.prog 22 (Go.TypeDesc.slice 34) 1 24 (Go.Value.slice none 0 0) := Ty.mk (by kernel_rfl)
theorem T24 : Ty Tryd.prog 24 (Go.TypeDesc.pointer 70) 1 8 (Go.Value.pointer none) := Ty.mk (by kernel_rfl)
theorem T26 : Ty Tryd.prog 26 (Go.TypeDesc.pointer 73) 1 8 (Go.Value.pointer none) := Ty.mk (by kernel_rfl)
theorem T3 : Ty Tryd.prog 3 (Go.TypeDesc.int Go.IntKind.i64) 1 8 (Go.Value.int Go.IntKind.i64 0) := Ty.mk (by kernel_rfl)
theorem T30 : Ty Tryd.prog 30 (Go.TypeDesc.array 2 29) 4 32 (Go.Value.agg #[Go.Value.pointer none, Go.Value.pointer none, Go.Value.pointer none, Go.Value.pointer none]) := Ty.mk (by kernel_rfl)
theorem T32 : Ty Tryd.prog 32 (Go.TypeDesc.slice 5) 1 24 (Go.Value.slice none 0 0) := Ty.mk (by kernel_rfl)
theorem T35 : Ty Tryd.prog 35 (Go.TypeDesc.int Go.IntKind.u64) 1 8 (Go.Value.int Go.IntKind.u64 0) := Ty.mk (by kernel_rfl)
theorem T38 : Ty Tryd.prog 38 (Go.TypeDesc.slice 48) 1 24 (Go.Value.slice none 0 0) := Ty.mk (by kernel_rfl)
theorem T39 : Ty Tryd.prog 39 (Go.TypeDesc.pointer 91) 1 8 (Go.Value.pointer none) := Ty.mk (by kernel_rfl)
theorem T4 : Ty Tryd.prog 4 (Go.TypeDesc.bool) 1 1 (Go.Value.bool false) := Ty.mk (by kernel_rfl)
theorem T40 : Ty Tryd.prog 40 (Go.TypeDesc.int Go.IntKind.i64) 1 8 (Go.Value.int Go.IntKind.i64 0) := Ty.mk (by kernel_rfl)
theorem T43 : Ty Tryd.prog 43 (Go.TypeDesc.map 9 46) 1 8 (Go.Value.map none) := Ty.mk (by kernel_rfl)
theorem T45 : Ty Tryd.prog 45 (Go.TypeDesc.int Go.IntKind.u64) 1 8 (Go.Value.int Go.IntKind.u64 0) := Ty.mk (by kernel_rfl)
theorem T46 : Ty Tryd.prog 46 (Go.TypeDesc.int Go.IntKind.u64) 1 8 (Go.Value.int Go.IntKind.u64 0) := Ty.mk (by kernel_rfl)
theorem T5 : Ty Tryd.prog 5 (Go.TypeDesc.int Go.IntKind.u8) 1 1 (Go.Value.int Go.IntKind.u8 0) := Ty.mk (by kernel_rfl)
theorem T56 : Ty Tryd.prog 56 (Go.TypeDesc.slice 38) 1 24 (Go.Value.slice none 0 0) := Ty.mk (by kernel_rfl)
theorem T68 : Ty Tryd.prog 68 (Go.TypeDesc.map 9 32) 1 8 (Go.Value.map none) := Ty.mk (by kernel_rfl)
theorem T71 : Ty Tryd.prog 71 (Go.TypeDesc.slice 76) 1 24 (Go.Value.slice none 0 0) := Ty.mk (by kernel_rfl)
theorem T77 : Ty Tryd.prog 77 (Go.TypeDesc.slice 9) 1 24 (Go.Value.slice none 0 0) := Ty.mk (by kernel_rfl)
theorem T87 : Ty Tryd.prog 87 (Go.TypeDesc.pointer 117) 1 8 (Go.Value.pointer none) := Ty.mk (by kernel_rfl)
theorem T9 : Ty Tryd.prog 9 (Go.TypeDesc.string) 1 16 (Go.Value.string { data := #[] }) := Ty.mk (by kernel_rfl)
theorem mixed : Tryd.prog.follows .mixedOrders = true := by kernel_rfl
end Go.Proofs.YtmhpgdpegneejaaDoor
