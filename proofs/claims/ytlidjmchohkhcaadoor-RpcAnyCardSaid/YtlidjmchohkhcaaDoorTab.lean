/-
  The types that the seat's functions use, as its program has them.
-/
import Derived.Test.YtlidjmchohkhcaaDoorProg
import Derived.Test.YtlidjmchohkhcaaDoorVgH
import Derived.KernelRfl
namespace Go.Vg
open Go.Proofs
theorem tab_nil {P : Program} : ∀ x, x ∈ ([] : List (TypeId × TI)) → TIok P x.1 x.2 := fun x hx => by simp at hx
theorem tab_cons {P : Program} {t : TypeId} {i : TI} {l : List (TypeId × TI)} (h : TIok P t i) (k : ∀ x, x ∈ l → TIok P x.1 x.2) : ∀ x, x ∈ (t, i) :: l → TIok P x.1 x.2 := fun x hx => by
  rcases List.mem_cons.1 hx with rfl | hx
  · exact h
  · exact k x hx
def tab : List (TypeId × TI) :=
  [(3, ⟨.int .i64, 1, 8, .int .i64 0⟩),
   (4, ⟨.bool, 1, 1, .bool false⟩),
   (5, ⟨.int .u8, 1, 1, .int .u8 0⟩),
   (9, ⟨.string, 1, 16, .string ⟨#[]⟩⟩),
   (12, ⟨.int .u64, 1, 8, .int .u64 0⟩),
   (124, ⟨.int .u32, 1, 4, .int .u32 0⟩),
   (17, ⟨.pointer 131, 1, 8, .pointer none⟩),
   (20, ⟨.interface #[], 1, 16, .nilIface⟩),
   (22, ⟨.slice 26, 1, 24, .slice none 0 0⟩),
   (24, ⟨.struct #[⟨ "L", 22, 0, false, "", "", 0⟩, ⟨ "At", 3, 1, false, "", "", 24⟩], 2, 32, .agg #[.slice none 0 0, .int .i64 0]⟩),
   (26, ⟨.slice 5, 1, 24, .slice none 0 0⟩),
   (28, ⟨.slice 58, 1, 24, .slice none 0 0⟩),
   (29, ⟨.slice 3, 1, 24, .slice none 0 0⟩),
   (31, ⟨.struct #[⟨ "Kind", 3, 0, false, "", "", 0⟩, ⟨ "From", 3, 1, false, "", "", 8⟩, ⟨ "To", 3, 2, false, "", "", 16⟩, ⟨ "Term", 3, 3, false, "", "", 24⟩, ⟨ "Index", 3, 4, false, "", "", 32⟩, ⟨ "LogTerm", 3, 5, false, "", "", 40⟩, ⟨ "Commit", 3, 6, false, "", "", 48⟩, ⟨ "Ok", 4, 7, false, "", "", 56⟩, ⟨ "Entries", 28, 8, false, "", "", 64⟩, ⟨ "Members", 29, 9, false, "", "", 88⟩, ⟨ "Data", 9, 10, false, "", "", 112⟩], 11, 128, .agg #[.int .i64 0, .int .i64 0, .int .i64 0, .int .i64 0, .int .i64 0, .int .i64 0, .int .i64 0, .bool false, .slice none 0 0, .slice none 0 0, .string ⟨#[]⟩]⟩),
   (33, ⟨.interface #[("Error", 70)], 1, 16, .nilIface⟩),
   (43, ⟨.pointer 45, 1, 8, .pointer none⟩),
   (45, ⟨.struct #[⟨ "b", 26, 0, false, "", "dovecote/rpc", 0⟩, ⟨ "e", 33, 1, false, "", "dovecote/rpc", 24⟩], 2, 40, .agg #[.slice none 0 0, .nilIface]⟩),
   (48, ⟨.int .i64, 1, 8, .int .i64 0⟩),
   (53, ⟨.pointer 55, 1, 8, .pointer none⟩),
   (55, ⟨.struct #[⟨ "b", 26, 0, false, "", "dovecote/rpc", 0⟩], 1, 24, .agg #[.slice none 0 0]⟩),
   (58, ⟨.struct #[⟨ "Index", 3, 0, false, "", "", 0⟩, ⟨ "Term", 3, 1, false, "", "", 8⟩, ⟨ "Kind", 3, 2, false, "", "", 16⟩, ⟨ "Data", 9, 3, false, "", "", 24⟩], 4, 40, .agg #[.int .i64 0, .int .i64 0, .int .i64 0, .string ⟨#[]⟩]⟩),
   (66, ⟨.pointer 3, 1, 8, .pointer none⟩),
   (67, ⟨.slice 66, 1, 24, .slice none 0 0⟩),
   (74, ⟨.interface #[("AssignableTo", 107), ("Comparable", 42), ("Elem", 104), ("Implements", 107), ("Kind", 106), ("Name", 70), ("PkgPath", 70), ("Size", 132), ("String", 70), ("internal/reflectlite.common", 123), ("internal/reflectlite.uncommon", 133)], 1, 16, .nilIface⟩),
   (79, ⟨.pointer 81, 1, 8, .pointer none⟩),
   (81, ⟨.struct #[⟨ "Layer", 9, 0, false, "", "", 0⟩, ⟨ "Err", 33, 1, false, "", "", 16⟩], 2, 32, .agg #[.string ⟨#[]⟩, .nilIface]⟩),
   (83, ⟨.pointer 48, 1, 8, .pointer none⟩),
   (90, ⟨.interface #[("Is", 92)], 1, 16, .nilIface⟩),
   (93, ⟨.interface #[("Unwrap", 69)], 1, 16, .nilIface⟩),
   (94, ⟨.interface #[("Unwrap", 96)], 1, 16, .nilIface⟩),
   (95, ⟨.slice 33, 1, 24, .slice none 0 0⟩),
   (100, ⟨.int .u64, 1, 8, .int .u64 0⟩),
   (102, ⟨.struct #[⟨ "typ_", 17, 0, false, "", "internal/reflectlite", 0⟩, ⟨ "ptr", 99, 1, false, "", "internal/reflectlite", 8⟩, ⟨ "flag", 100, 2, true, "", "internal/reflectlite", 16⟩], 3, 24, .agg #[.pointer none, .pointer none, .int .u64 0]⟩),
   (105, ⟨.int .u8, 1, 1, .int .u8 0⟩),
   (114, ⟨.interface #[("As", 116)], 1, 16, .nilIface⟩),
   (125, ⟨.int .u8, 1, 1, .int .u8 0⟩),
   (127, ⟨.pointer 5, 1, 8, .pointer none⟩),
   (128, ⟨.int .i32, 1, 4, .int .i32 0⟩),
   (129, ⟨.int .i32, 1, 4, .int .i32 0⟩),
   (131, ⟨.struct #[⟨ "Size_", 12, 0, false, "", "", 0⟩, ⟨ "PtrBytes", 12, 1, false, "", "", 8⟩, ⟨ "Hash", 124, 2, false, "", "", 16⟩, ⟨ "TFlag", 125, 3, false, "", "", 20⟩, ⟨ "Align_", 5, 4, false, "", "", 21⟩, ⟨ "FieldAlign_", 5, 5, false, "", "", 22⟩, ⟨ "Kind_", 105, 6, false, "", "", 23⟩, ⟨ "Equal", 126, 7, false, "", "", 24⟩, ⟨ "GCData", 127, 8, false, "", "", 32⟩, ⟨ "Str", 128, 9, false, "", "", 40⟩, ⟨ "PtrToThis", 129, 10, false, "", "", 44⟩], 11, 48, .agg #[.int .u64 0, .int .u64 0, .int .u32 0, .int .u8 0, .int .u8 0, .int .u8 0, .int .u8 0, .nilFunc, .pointer none, .int .i32 0, .int .i32 0]⟩)]
theorem tab3 : TIok Tryd.prog 3 ⟨.int .i64, 1, 8, .int .i64 0⟩ := ⟨by kernel_rfl, by kernel_rfl⟩
theorem tab4 : TIok Tryd.prog 4 ⟨.bool, 1, 1, .bool false⟩ := ⟨by kernel_rfl, by kernel_rfl⟩
theorem tab5 : TIok Tryd.prog 5 ⟨.int .u8, 1, 1, .int .u8 0⟩ := ⟨by kernel_rfl, by kernel_rfl⟩
theorem tab9 : TIok Tryd.prog 9 ⟨.string, 1, 16, .string ⟨#[]⟩⟩ := ⟨by kernel_rfl, by kernel_rfl⟩
theorem tab12 : TIok Tryd.prog 12 ⟨.int .u64, 1, 8, .int .u64 0⟩ := ⟨by kernel_rfl, by kernel_rfl⟩
theorem tab124 : TIok Tryd.prog 124 ⟨.int .u32, 1, 4, .int .u32 0⟩ := ⟨by kernel_rfl, by kernel_rfl⟩
theorem tab17 : TIok Tryd.prog 17 ⟨.pointer 131, 1, 8, .pointer none⟩ := ⟨by kernel_rfl, by kernel_rfl⟩
theorem tab20 : TIok Tryd.prog 20 ⟨.interface #[], 1, 16, .nilIface⟩ := ⟨by kernel_rfl, by kernel_rfl⟩
theorem tab22 : TIok Tryd.prog 22 ⟨.slice 26, 1, 24, .slice none 0 0⟩ := ⟨by kernel_rfl, by kernel_rfl⟩
theorem tab24 : TIok Tryd.prog 24 ⟨.struct #[⟨ "L", 22, 0, false, "", "", 0⟩, ⟨ "At", 3, 1, false, "", "", 24⟩], 2, 32, .agg #[.slice none 0 0, .int .i64 0]⟩ := ⟨by kernel_rfl, by kernel_rfl⟩
theorem tab26 : TIok Tryd.prog 26 ⟨.slice 5, 1, 24, .slice none 0 0⟩ := ⟨by kernel_rfl, by kernel_rfl⟩
theorem tab28 : TIok Tryd.prog 28 ⟨.slice 58, 1, 24, .slice none 0 0⟩ := ⟨by kernel_rfl, by kernel_rfl⟩
theorem tab29 : TIok Tryd.prog 29 ⟨.slice 3, 1, 24, .slice none 0 0⟩ := ⟨by kernel_rfl, by kernel_rfl⟩
theorem tab31 : TIok Tryd.prog 31 ⟨.struct #[⟨ "Kind", 3, 0, false, "", "", 0⟩, ⟨ "From", 3, 1, false, "", "", 8⟩, ⟨ "To", 3, 2, false, "", "", 16⟩, ⟨ "Term", 3, 3, false, "", "", 24⟩, ⟨ "Index", 3, 4, false, "", "", 32⟩, ⟨ "LogTerm", 3, 5, false, "", "", 40⟩, ⟨ "Commit", 3, 6, false, "", "", 48⟩, ⟨ "Ok", 4, 7, false, "", "", 56⟩, ⟨ "Entries", 28, 8, false, "", "", 64⟩, ⟨ "Members", 29, 9, false, "", "", 88⟩, ⟨ "Data", 9, 10, false, "", "", 112⟩], 11, 128, .agg #[.int .i64 0, .int .i64 0, .int .i64 0, .int .i64 0, .int .i64 0, .int .i64 0, .int .i64 0, .bool false, .slice none 0 0, .slice none 0 0, .string ⟨#[]⟩]⟩ := ⟨by kernel_rfl, by kernel_rfl⟩
theorem tab33 : TIok Tryd.prog 33 ⟨.interface #[("Error", 70)], 1, 16, .nilIface⟩ := ⟨by kernel_rfl, by kernel_rfl⟩
theorem tab43 : TIok Tryd.prog 43 ⟨.pointer 45, 1, 8, .pointer none⟩ := ⟨by kernel_rfl, by kernel_rfl⟩
theorem tab45 : TIok Tryd.prog 45 ⟨.struct #[⟨ "b", 26, 0, false, "", "dovecote/rpc", 0⟩, ⟨ "e", 33, 1, false, "", "dovecote/rpc", 24⟩], 2, 40, .agg #[.slice none 0 0, .nilIface]⟩ := ⟨by kernel_rfl, by kernel_rfl⟩
theorem tab48 : TIok Tryd.prog 48 ⟨.int .i64, 1, 8, .int .i64 0⟩ := ⟨by kernel_rfl, by kernel_rfl⟩
theorem tab53 : TIok Tryd.prog 53 ⟨.pointer 55, 1, 8, .pointer none⟩ := ⟨by kernel_rfl, by kernel_rfl⟩
theorem tab55 : TIok Tryd.prog 55 ⟨.struct #[⟨ "b", 26, 0, false, "", "dovecote/rpc", 0⟩], 1, 24, .agg #[.slice none 0 0]⟩ := ⟨by kernel_rfl, by kernel_rfl⟩
theorem tab58 : TIok Tryd.prog 58 ⟨.struct #[⟨ "Index", 3, 0, false, "", "", 0⟩, ⟨ "Term", 3, 1, false, "", "", 8⟩, ⟨ "Kind", 3, 2, false, "", "", 16⟩, ⟨ "Data", 9, 3, false, "", "", 24⟩], 4, 40, .agg #[.int .i64 0, .int .i64 0, .int .i64 0, .string ⟨#[]⟩]⟩ := ⟨by kernel_rfl, by kernel_rfl⟩
theorem tab66 : TIok Tryd.prog 66 ⟨.pointer 3, 1, 8, .pointer none⟩ := ⟨by kernel_rfl, by kernel_rfl⟩
theorem tab67 : TIok Tryd.prog 67 ⟨.slice 66, 1, 24, .slice none 0 0⟩ := ⟨by kernel_rfl, by kernel_rfl⟩
theorem tab74 : TIok Tryd.prog 74 ⟨.interface #[("AssignableTo", 107), ("Comparable", 42), ("Elem", 104), ("Implements", 107), ("Kind", 106), ("Name", 70), ("PkgPath", 70), ("Size", 132), ("String", 70), ("internal/reflectlite.common", 123), ("internal/reflectlite.uncommon", 133)], 1, 16, .nilIface⟩ := ⟨by kernel_rfl, by kernel_rfl⟩
theorem tab79 : TIok Tryd.prog 79 ⟨.pointer 81, 1, 8, .pointer none⟩ := ⟨by kernel_rfl, by kernel_rfl⟩
theorem tab81 : TIok Tryd.prog 81 ⟨.struct #[⟨ "Layer", 9, 0, false, "", "", 0⟩, ⟨ "Err", 33, 1, false, "", "", 16⟩], 2, 32, .agg #[.string ⟨#[]⟩, .nilIface]⟩ := ⟨by kernel_rfl, by kernel_rfl⟩
theorem tab83 : TIok Tryd.prog 83 ⟨.pointer 48, 1, 8, .pointer none⟩ := ⟨by kernel_rfl, by kernel_rfl⟩
theorem tab90 : TIok Tryd.prog 90 ⟨.interface #[("Is", 92)], 1, 16, .nilIface⟩ := ⟨by kernel_rfl, by kernel_rfl⟩
theorem tab93 : TIok Tryd.prog 93 ⟨.interface #[("Unwrap", 69)], 1, 16, .nilIface⟩ := ⟨by kernel_rfl, by kernel_rfl⟩
theorem tab94 : TIok Tryd.prog 94 ⟨.interface #[("Unwrap", 96)], 1, 16, .nilIface⟩ := ⟨by kernel_rfl, by kernel_rfl⟩
theorem tab95 : TIok Tryd.prog 95 ⟨.slice 33, 1, 24, .slice none 0 0⟩ := ⟨by kernel_rfl, by kernel_rfl⟩
theorem tab100 : TIok Tryd.prog 100 ⟨.int .u64, 1, 8, .int .u64 0⟩ := ⟨by kernel_rfl, by kernel_rfl⟩
theorem tab102 : TIok Tryd.prog 102 ⟨.struct #[⟨ "typ_", 17, 0, false, "", "internal/reflectlite", 0⟩, ⟨ "ptr", 99, 1, false, "", "internal/reflectlite", 8⟩, ⟨ "flag", 100, 2, true, "", "internal/reflectlite", 16⟩], 3, 24, .agg #[.pointer none, .pointer none, .int .u64 0]⟩ := ⟨by kernel_rfl, by kernel_rfl⟩
theorem tab105 : TIok Tryd.prog 105 ⟨.int .u8, 1, 1, .int .u8 0⟩ := ⟨by kernel_rfl, by kernel_rfl⟩
theorem tab114 : TIok Tryd.prog 114 ⟨.interface #[("As", 116)], 1, 16, .nilIface⟩ := ⟨by kernel_rfl, by kernel_rfl⟩
theorem tab125 : TIok Tryd.prog 125 ⟨.int .u8, 1, 1, .int .u8 0⟩ := ⟨by kernel_rfl, by kernel_rfl⟩
theorem tab127 : TIok Tryd.prog 127 ⟨.pointer 5, 1, 8, .pointer none⟩ := ⟨by kernel_rfl, by kernel_rfl⟩
theorem tab128 : TIok Tryd.prog 128 ⟨.int .i32, 1, 4, .int .i32 0⟩ := ⟨by kernel_rfl, by kernel_rfl⟩
theorem tab129 : TIok Tryd.prog 129 ⟨.int .i32, 1, 4, .int .i32 0⟩ := ⟨by kernel_rfl, by kernel_rfl⟩
theorem tab131 : TIok Tryd.prog 131 ⟨.struct #[⟨ "Size_", 12, 0, false, "", "", 0⟩, ⟨ "PtrBytes", 12, 1, false, "", "", 8⟩, ⟨ "Hash", 124, 2, false, "", "", 16⟩, ⟨ "TFlag", 125, 3, false, "", "", 20⟩, ⟨ "Align_", 5, 4, false, "", "", 21⟩, ⟨ "FieldAlign_", 5, 5, false, "", "", 22⟩, ⟨ "Kind_", 105, 6, false, "", "", 23⟩, ⟨ "Equal", 126, 7, false, "", "", 24⟩, ⟨ "GCData", 127, 8, false, "", "", 32⟩, ⟨ "Str", 128, 9, false, "", "", 40⟩, ⟨ "PtrToThis", 129, 10, false, "", "", 44⟩], 11, 48, .agg #[.int .u64 0, .int .u64 0, .int .u32 0, .int .u8 0, .int .u8 0, .int .u8 0, .int .u8 0, .nilFunc, .pointer none, .int .i32 0, .int .i32 0]⟩ := ⟨by kernel_rfl, by kernel_rfl⟩
theorem tab_ok : ∀ x, x ∈ tab → TIok Tryd.prog x.1 x.2 :=
  tab_cons tab3 (
  tab_cons tab4 (
  tab_cons tab5 (
  tab_cons tab9 (
  tab_cons tab12 (
  tab_cons tab124 (
  tab_cons tab17 (
  tab_cons tab20 (
  tab_cons tab22 (
  tab_cons tab24 (
  tab_cons tab26 (
  tab_cons tab28 (
  tab_cons tab29 (
  tab_cons tab31 (
  tab_cons tab33 (
  tab_cons tab43 (
  tab_cons tab45 (
  tab_cons tab48 (
  tab_cons tab53 (
  tab_cons tab55 (
  tab_cons tab58 (
  tab_cons tab66 (
  tab_cons tab67 (
  tab_cons tab74 (
  tab_cons tab79 (
  tab_cons tab81 (
  tab_cons tab83 (
  tab_cons tab90 (
  tab_cons tab93 (
  tab_cons tab94 (
  tab_cons tab95 (
  tab_cons tab100 (
  tab_cons tab102 (
  tab_cons tab105 (
  tab_cons tab114 (
  tab_cons tab125 (
  tab_cons tab127 (
  tab_cons tab128 (
  tab_cons tab129 (
  tab_cons tab131 (tab_nil))))))))))))))))))))))))))))))))))))))))
def fnl : List Nat := [3, 4, 5, 6, 7, 8, 9, 10, 11, 12, 13, 14, 15, 16, 17, 18, 19, 20, 21, 22, 23, 24, 25, 26, 27, 28, 29, 30, 31, 32, 34, 35, 36, 37, 38, 39, 40, 41, 42, 43, 44, 45, 46, 47, 48, 52, 53, 54, 55, 58, 78, 97]
theorem fnl_ok : fnl.all (chkF Tryd.prog) = true := by kernel_rfl
instance : HasTab Tryd.prog := ⟨tab, tab_ok, fnl, fnl_ok, by kernel_rfl⟩
end Go.Vg
