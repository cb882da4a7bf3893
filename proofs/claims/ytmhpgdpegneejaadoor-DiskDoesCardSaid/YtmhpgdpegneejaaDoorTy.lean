/- Facts on the types of the translation, off its own tables: sizes, zeros, fields. -/
import Derived.Test.YtmhpgdpegneejaaDoorProg
import Derived.Test.YtmhpgdpegneejaaDoorSl7
import Derived.KernelRfl
namespace Go.Proofs.YtmhpgdpegneejaaDoor
open Go Go.Proofs Go.Proofs.Slx
theorem B132 : strT Tryd.prog 132 = some (#[(0, 1), (1, 1), (2, 1)], Go.Value.agg #[Go.Value.bool false, Go.Value.slice none 0 0, Go.Value.int Go.IntKind.i64 0]) := by kernel_rfl
theorem B134 : strT Tryd.prog 134 = some (#[(0, 3)], Go.Value.agg #[Go.Value.bool false, Go.Value.slice none 0 0, Go.Value.int Go.IntKind.i64 0]) := by kernel_rfl
theorem B29 : strT Tryd.prog 29 = some (#[(0, 1), (1, 1)], Go.Value.agg #[Go.Value.pointer none, Go.Value.pointer none]) := by kernel_rfl
theorem B70 : strT Tryd.prog 70 = some (#[(0, 1), (1, 1), (2, 1), (3, 1)], Go.Value.agg #[Go.Value.map none, Go.Value.int Go.IntKind.i64 0, Go.Value.int Go.IntKind.i64 0, Go.Value.bool false]) := by kernel_rfl
theorem B73 : strT Tryd.prog 73 = some (#[(0, 1), (1, 1), (2, 1)], Go.Value.agg #[Go.Value.slice none 0 0, Go.Value.int Go.IntKind.i64 0, Go.Value.int Go.IntKind.i64 0]) := by kernel_rfl
theorem B76 : strT Tryd.prog 76 = some (#[(0, 1), (1, 1)], Go.Value.agg #[Go.Value.string { data := #[] }, Go.Value.slice none 0 0]) := by kernel_rfl
theorem F132_0 : fld Tryd.prog 132 0 = some (0, 4) := by kernel_rfl
theorem F132_1 : fld Tryd.prog 132 1 = some (1, 32) := by kernel_rfl
theorem F132_2 : fld Tryd.prog 132 2 = some (2, 40) := by kernel_rfl
theorem F134_0 : fld Tryd.prog 134 0 = some (0, 132) := by kernel_rfl
theorem F29_0 : fld Tryd.prog 29 0 = some (0, 24) := by kernel_rfl
theorem F29_1 : fld Tryd.prog 29 1 = some (1, 26) := by kernel_rfl
theorem F34_0 : fld Tryd.prog 34 0 = some (0, 3) := by kernel_rfl
theorem F34_1 : fld Tryd.prog 34 1 = some (1, 9) := by kernel_rfl
theorem F34_2 : fld Tryd.prog 34 2 = some (2, 9) := by kernel_rfl
theorem F34_3 : fld Tryd.prog 34 3 = some (3, 3) := by kernel_rfl
theorem F34_4 : fld Tryd.prog 34 4 = some (4, 32) := by kernel_rfl
theorem F70_0 : fld Tryd.prog 70 0 = some (0, 68) := by kernel_rfl
theorem F70_1 : fld Tryd.prog 70 1 = some (1, 3) := by kernel_rfl
theorem F70_2 : fld Tryd.prog 70 2 = some (2, 3) := by kernel_rfl
theorem F70_3 : fld Tryd.prog 70 3 = some (3, 4) := by kernel_rfl
theorem F73_0 : fld Tryd.prog 73 0 = some (0, 71) := by kernel_rfl
theorem F73_1 : fld Tryd.prog 73 1 = some (1, 3) := by kernel_rfl
theorem F73_2 : fld Tryd.prog 73 2 = some (2, 3) := by kernel_rfl
theorem F76_0 : fld Tryd.prog 76 0 = some (0, 9) := by kernel_rfl
theorem F76_1 : fld Tryd.prog 76 1 = some (1, 32) := by kernel_rfl
theorem G29 : TyG Tryd.prog 29 2 16 (Go.Value.agg #[Go.Value.pointer none, Go.Value.pointer none]) := TyG.mk (by kernel_rfl)
theorem G34 : TyG Tryd.prog 34 5 72 (Go.Value.agg   #[Go.Value.int Go.IntKind.i64 0, Go.Value.string { data := #[] }, Go.Value.string { data := #[] },     Go.Value.int Go.IntKind.i64 0, Go.Value.slice none 0 0]) := TyG.mk (by kernel_rfl)
theorem G76 : TyG Tryd.prog 76 2 40 (Go.Value.agg #[Go.Value.string { data := #[] }, Go.Value.slice none 0 0]) := TyG.mk (by kernel_rfl)
theorem K9 : KeyT Tryd.prog 9 ByteArray strK := keyT_string Tryd.underlying9
theorem N22 : noInt Tryd.prog 22 := .inl ⟨_, Tryd.underlying22⟩
theorem N32 : noInt Tryd.prog 32 := .inl ⟨_, Tryd.underlying32⟩
theorem N71 : noInt Tryd.prog 71 := .inl ⟨_, Tryd.underlying71⟩
theorem N77 : noInt Tryd.prog 77 := .inl ⟨_, Tryd.underlying77⟩
theorem N9 : noInt Tryd.prog 9 := .inr Tryd.underlying9
theorem S132 : Sz Tryd.prog 132 3 40 (Go.Value.agg #[Go.Value.bool false, Go.Value.slice none 0 0, Go.Value.int Go.IntKind.i64 0]) := by unfold Sz; kernel_rfl
theorem S24 : Sz Tryd.prog 24 1 8 (Go.Value.pointer none) := by unfold Sz; kernel_rfl
theorem S26 : Sz Tryd.prog 26 1 8 (Go.Value.pointer none) := by unfold Sz; kernel_rfl
theorem S29 : Sz Tryd.prog 29 2 16 (Go.Value.agg #[Go.Value.pointer none, Go.Value.pointer none]) := by unfold Sz; kernel_rfl
theorem S3 : Sz Tryd.prog 3 1 8 (Go.Value.int Go.IntKind.i64 0) := by unfold Sz; kernel_rfl
theorem S30 : Sz Tryd.prog 30 4 32 (Go.Value.agg #[Go.Value.pointer none, Go.Value.pointer none, Go.Value.pointer none, Go.Value.pointer none]) := by unfold Sz; kernel_rfl
theorem S32 : Sz Tryd.prog 32 1 24 (Go.Value.slice none 0 0) := by unfold Sz; kernel_rfl
theorem S34 : Sz Tryd.prog 34 5 72 (Go.Value.agg   #[Go.Value.int Go.IntKind.i64 0, Go.Value.string { data := #[] }, Go.Value.string { data := #[] },     Go.Value.int Go.IntKind.i64 0, Go.Value.slice none 0 0]) := by unfold Sz; kernel_rfl
theorem S4 : Sz Tryd.prog 4 1 1 (Go.Value.bool false) := by unfold Sz; kernel_rfl
theorem S40 : Sz Tryd.prog 40 1 8 (Go.Value.int Go.IntKind.i64 0) := by unfold Sz; kernel_rfl
theorem S5 : Sz Tryd.prog 5 1 1 (Go.Value.int Go.IntKind.u8 0) := by unfold Sz; kernel_rfl
theorem S68 : Sz Tryd.prog 68 1 8 (Go.Value.map none) := by unfold Sz; kernel_rfl
theorem S71 : Sz Tryd.prog 71 1 24 (Go.Value.slice none 0 0) := by unfold Sz; kernel_rfl
theorem S76 : Sz Tryd.prog 76 2 40 (Go.Value.agg #[Go.Value.string { data := #[] }, Go.Value.slice none 0 0]) := by unfold Sz; kernel_rfl
theorem S77 : Sz Tryd.prog 77 1 24 (Go.Value.slice none 0 0) := by unfold Sz; kernel_rfl
theorem S9 : Sz Tryd.prog 9 1 16 (Go.Value.string { data := #[] }) := by unfold Sz; kernel_rfl
theorem T118 : Ty Tryd.prog 118 (Go.TypeDesc.pointer 134) 1 8 (Go.Value.pointer none) := Ty.mk (by kernel_rfl)
theorem T22 : Ty Tryd.prog 22 (Go.TypeDesc.slice 34) 1 24 (Go.Value.slice none 0 0) := Ty.mk (by kernel_rfl)
theorem T24 : Ty Tryd.prog 24 (Go.TypeDesc.pointer 70) 1 8 (Go.Value.pointer none) := Ty.mk (by kernel_rfl)
theorem T26 : Ty Tryd.prog 26 (Go.TypeDesc.pointer 73) 1 8 (Go.Value.pointer none) := Ty.mk (by kernel_rfl)
theorem T3 : Ty Tryd.prog 3 (Go.TypeDesc.int Go.IntKind.i64) 1 8 (Go.Value.int Go.IntKind.i64 0) := Ty.mk (by kernel_rfl)
theorem T30 : Ty Tryd.prog 30 (Go.TypeDesc.array 2 29) 4 32 (Go.Value.agg #[Go.Value.pointer none, Go.Value.pointer none, Go.Value.pointer none, Go.Value.pointer none]) := Ty.mk (by kernel_rfl)
theorem T32 : Ty Tryd.prog 32 (Go.TypeDesc.slice 5) 1 24 (Go.Value.slice none 0 0) := Ty.mk (by kernel_rfl)
theorem T35 : Ty Tryd.prog 35 (Go.TypeDesc.int Go.IntKind.u64) 1 8 (Go.Value.int Go.IntKind.u64 0) := Ty.mk (by kernel_rfl)
theorem T4 : Ty Tryd.prog 4 (Go.TypeDesc.bool) 1 1 (Go.Value.bool false) := Ty.mk (by kernel_rfl)
theorem T40 : Ty Tryd.prog 40 (Go.TypeDesc.int Go.IntKind.i64) 1 8 (Go.Value.int Go.IntKind.i64 0) := Ty.mk (by kernel_rfl)
theorem T45 : Ty Tryd.prog 45 (Go.TypeDesc.int Go.IntKind.u64) 1 8 (Go.Value.int Go.IntKind.u64 0) := Ty.mk (by kernel_rfl)
theorem T5 : Ty Tryd.prog 5 (Go.TypeDesc.int Go.IntKind.u8) 1 1 (Go.Value.int Go.IntKind.u8 0) := Ty.mk (by kernel_rfl)
theorem T68 : Ty Tryd.prog 68 (Go.TypeDesc.map 9 32) 1 8 (Go.Value.map none) := Ty.mk (by kernel_rfl)
theorem T71 : Ty Tryd.prog 71 (Go.TypeDesc.slice 76) 1 24 (Go.Value.slice none 0 0) := Ty.mk (by kernel_rfl)
theorem T77 : Ty Tryd.prog 77 (Go.TypeDesc.slice 9) 1 24 (Go.Value.slice none 0 0) := Ty.mk (by kernel_rfl)
theorem T9 : Ty Tryd.prog 9 (Go.TypeDesc.string) 1 16 (Go.Value.string { data := #[] }) := Ty.mk (by kernel_rfl)
theorem mixed : Tryd.prog.follows .mixedOrders = true := by kernel_rfl
end Go.Proofs.YtmhpgdpegneejaaDoor
