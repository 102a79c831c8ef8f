/-
  The types that the seat's functions use, as its program has them.
-/
import Derived.Test.YtdkcihifmmppiaaDoorProg
import Derived.Test.YtdkcihifmmppiaaDoorVgH
import Derived.KernelRfl
namespace Go.Vg
open Go.Proofs
theorem tab_nil {P : Program} : ∀ x, x ∈ ([] : List (TypeId × TI)) → TIok P x.1 x.2 := fun x hx => by simp at hx
theorem tab_cons {P : Program} {t : TypeId} {i : TI} {l : List (TypeId × TI)} (h : TIok P t i) (k : ∀ x, x ∈ l → TIok P x.1 x.2) : ∀ x, x ∈ (t, i) :: l → TIok P x.1 x.2 := fun x hx => by
  rcases List.mem_cons.1 hx with rfl | hx
  · exact h
  · exact k x hx
def tab : List (TypeId × TI) :=
  [(3, ⟨.int .i64, 1, 8, .int .i64 0⟩),
   (4, ⟨.bool, 1, 1, .bool false⟩),
   (5, ⟨.int .u8, 1, 1, .int .u8 0⟩),
   (9, ⟨.string, 1, 16, .string ⟨#[]⟩⟩),
   (12, ⟨.int .u64, 1, 8, .int .u64 0⟩),
   (114, ⟨.int .u32, 1, 4, .int .u32 0⟩),
   (0, ⟨.tuple #[], 1, 0, .tuple #[]⟩),
   (17, ⟨.pointer 121, 1, 8, .pointer none⟩),
   (20, ⟨.interface #[], 1, 16, .nilIface⟩),
   (22, ⟨.slice 28, 1, 24, .slice none 0 0⟩),
   (24, ⟨.slice 64, 1, 24, .slice none 0 0⟩),
   (26, ⟨.struct #[⟨ "Base", 3, 0, false, "", "", 0⟩, ⟨ "BaseTerm", 3, 1, false, "", "", 8⟩, ⟨ "Entries", 24, 2, false, "", "", 16⟩], 3, 40, .agg #[.int .i64 0, .int .i64 0, .slice none 0 0]⟩),
   (28, ⟨.struct #[⟨ "L", 26, 0, false, "", "", 0⟩, ⟨ "I", 3, 3, false, "", "", 40⟩, ⟨ "T", 3, 4, false, "", "", 48⟩, ⟨ "Es", 24, 5, false, "", "", 56⟩, ⟨ "N", 3, 6, false, "", "", 80⟩], 7, 88, .agg #[.int .i64 0, .int .i64 0, .slice none 0 0, .int .i64 0, .int .i64 0, .slice none 0 0, .int .i64 0]⟩),
   (30, ⟨.interface #[("Error", 106)], 1, 16, .nilIface⟩),
   (64, ⟨.struct #[⟨ "Index", 3, 0, false, "", "", 0⟩, ⟨ "Term", 3, 1, false, "", "", 8⟩, ⟨ "Kind", 3, 2, false, "", "", 16⟩, ⟨ "Data", 9, 3, false, "", "", 24⟩], 4, 40, .agg #[.int .i64 0, .int .i64 0, .int .i64 0, .string ⟨#[]⟩]⟩),
   (70, ⟨.int .i64, 1, 8, .int .i64 0⟩),
   (76, ⟨.pointer 78, 1, 8, .pointer none⟩),
   (78, ⟨.struct #[⟨ "Layer", 9, 0, false, "", "", 0⟩, ⟨ "Err", 30, 1, false, "", "", 16⟩], 2, 32, .agg #[.string ⟨#[]⟩, .nilIface]⟩),
   (80, ⟨.pointer 70, 1, 8, .pointer none⟩),
   (82, ⟨.int .u64, 1, 8, .int .u64 0⟩),
   (84, ⟨.struct #[⟨ "typ_", 17, 0, false, "", "internal/reflectlite", 0⟩, ⟨ "ptr", 81, 1, false, "", "internal/reflectlite", 8⟩, ⟨ "flag", 82, 2, true, "", "internal/reflectlite", 16⟩], 3, 24, .agg #[.pointer none, .pointer none, .int .u64 0]⟩),
   (87, ⟨.interface #[("AssignableTo", 91), ("Comparable", 37), ("Elem", 88), ("Implements", 91), ("Kind", 90), ("Name", 106), ("PkgPath", 106), ("Size", 122), ("String", 106), ("internal/reflectlite.common", 113), ("internal/reflectlite.uncommon", 123)], 1, 16, .nilIface⟩),
   (89, ⟨.int .u8, 1, 1, .int .u8 0⟩),
   (99, ⟨.interface #[("As", 101)], 1, 16, .nilIface⟩),
   (102, ⟨.interface #[("Unwrap", 68)], 1, 16, .nilIface⟩),
   (103, ⟨.interface #[("Unwrap", 105)], 1, 16, .nilIface⟩),
   (104, ⟨.slice 30, 1, 24, .slice none 0 0⟩),
   (115, ⟨.int .u8, 1, 1, .int .u8 0⟩),
   (117, ⟨.pointer 5, 1, 8, .pointer none⟩),
   (118, ⟨.int .i32, 1, 4, .int .i32 0⟩),
   (119, ⟨.int .i32, 1, 4, .int .i32 0⟩),
   (121, ⟨.struct #[⟨ "Size_", 12, 0, false, "", "", 0⟩, ⟨ "PtrBytes", 12, 1, false, "", "", 8⟩, ⟨ "Hash", 114, 2, false, "", "", 16⟩, ⟨ "TFlag", 115, 3, false, "", "", 20⟩, ⟨ "Align_", 5, 4, false, "", "", 21⟩, ⟨ "FieldAlign_", 5, 5, false, "", "", 22⟩, ⟨ "Kind_", 89, 6, false, "", "", 23⟩, ⟨ "Equal", 116, 7, false, "", "", 24⟩, ⟨ "GCData", 117, 8, false, "", "", 32⟩, ⟨ "Str", 118, 9, false, "", "", 40⟩, ⟨ "PtrToThis", 119, 10, false, "", "", 44⟩], 11, 48, .agg #[.int .u64 0, .int .u64 0, .int .u32 0, .int .u8 0, .int .u8 0, .int .u8 0, .int .u8 0, .nilFunc, .pointer none, .int .i32 0, .int .i32 0]⟩)]
theorem tab3 : TIok Tryd.prog 3 ⟨.int .i64, 1, 8, .int .i64 0⟩ := ⟨by kernel_rfl, by kernel_rfl⟩
theorem tab4 : TIok Tryd.prog 4 ⟨.bool, 1, 1, .bool false⟩ := ⟨by kernel_rfl, by kernel_rfl⟩
theorem tab5 : TIok Tryd.prog 5 ⟨.int .u8, 1, 1, .int .u8 0⟩ := ⟨by kernel_rfl, by kernel_rfl⟩
theorem tab9 : TIok Tryd.prog 9 ⟨.string, 1, 16, .string ⟨#[]⟩⟩ := ⟨by kernel_rfl, by kernel_rfl⟩
theorem tab12 : TIok Tryd.prog 12 ⟨.int .u64, 1, 8, .int .u64 0⟩ := ⟨by kernel_rfl, by kernel_rfl⟩
theorem tab114 : TIok Tryd.prog 114 ⟨.int .u32, 1, 4, .int .u32 0⟩ := ⟨by kernel_rfl, by kernel_rfl⟩
theorem tab0 : TIok Tryd.prog 0 ⟨.tuple #[], 1, 0, .tuple #[]⟩ := ⟨by kernel_rfl, by kernel_rfl⟩
theorem tab17 : TIok Tryd.prog 17 ⟨.pointer 121, 1, 8, .pointer none⟩ := ⟨by kernel_rfl, by kernel_rfl⟩
theorem tab20 : TIok Tryd.prog 20 ⟨.interface #[], 1, 16, .nilIface⟩ := ⟨by kernel_rfl, by kernel_rfl⟩
theorem tab22 : TIok Tryd.prog 22 ⟨.slice 28, 1, 24, .slice none 0 0⟩ := ⟨by kernel_rfl, by kernel_rfl⟩
theorem tab24 : TIok Tryd.prog 24 ⟨.slice 64, 1, 24, .slice none 0 0⟩ := ⟨by kernel_rfl, by kernel_rfl⟩
theorem tab26 : TIok Tryd.prog 26 ⟨.struct #[⟨ "Base", 3, 0, false, "", "", 0⟩, ⟨ "BaseTerm", 3, 1, false, "", "", 8⟩, ⟨ "Entries", 24, 2, false, "", "", 16⟩], 3, 40, .agg #[.int .i64 0, .int .i64 0, .slice none 0 0]⟩ := ⟨by kernel_rfl, by kernel_rfl⟩
theorem tab28 : TIok Tryd.prog 28 ⟨.struct #[⟨ "L", 26, 0, false, "", "", 0⟩, ⟨ "I", 3, 3, false, "", "", 40⟩, ⟨ "T", 3, 4, false, "", "", 48⟩, ⟨ "Es", 24, 5, false, "", "", 56⟩, ⟨ "N", 3, 6, false, "", "", 80⟩], 7, 88, .agg #[.int .i64 0, .int .i64 0, .slice none 0 0, .int .i64 0, .int .i64 0, .slice none 0 0, .int .i64 0]⟩ := ⟨by kernel_rfl, by kernel_rfl⟩
theorem tab30 : TIok Tryd.prog 30 ⟨.interface #[("Error", 106)], 1, 16, .nilIface⟩ := ⟨by kernel_rfl, by kernel_rfl⟩
theorem tab64 : TIok Tryd.prog 64 ⟨.struct #[⟨ "Index", 3, 0, false, "", "", 0⟩, ⟨ "Term", 3, 1, false, "", "", 8⟩, ⟨ "Kind", 3, 2, false, "", "", 16⟩, ⟨ "Data", 9, 3, false, "", "", 24⟩], 4, 40, .agg #[.int .i64 0, .int .i64 0, .int .i64 0, .string ⟨#[]⟩]⟩ := ⟨by kernel_rfl, by kernel_rfl⟩
theorem tab70 : TIok Tryd.prog 70 ⟨.int .i64, 1, 8, .int .i64 0⟩ := ⟨by kernel_rfl, by kernel_rfl⟩
theorem tab76 : TIok Tryd.prog 76 ⟨.pointer 78, 1, 8, .pointer none⟩ := ⟨by kernel_rfl, by kernel_rfl⟩
theorem tab78 : TIok Tryd.prog 78 ⟨.struct #[⟨ "Layer", 9, 0, false, "", "", 0⟩, ⟨ "Err", 30, 1, false, "", "", 16⟩], 2, 32, .agg #[.string ⟨#[]⟩, .nilIface]⟩ := ⟨by kernel_rfl, by kernel_rfl⟩
theorem tab80 : TIok Tryd.prog 80 ⟨.pointer 70, 1, 8, .pointer none⟩ := ⟨by kernel_rfl, by kernel_rfl⟩
theorem tab82 : TIok Tryd.prog 82 ⟨.int .u64, 1, 8, .int .u64 0⟩ := ⟨by kernel_rfl, by kernel_rfl⟩
theorem tab84 : TIok Tryd.prog 84 ⟨.struct #[⟨ "typ_", 17, 0, false, "", "internal/reflectlite", 0⟩, ⟨ "ptr", 81, 1, false, "", "internal/reflectlite", 8⟩, ⟨ "flag", 82, 2, true, "", "internal/reflectlite", 16⟩], 3, 24, .agg #[.pointer none, .pointer none, .int .u64 0]⟩ := ⟨by kernel_rfl, by kernel_rfl⟩
theorem tab87 : TIok Tryd.prog 87 ⟨.interface #[("AssignableTo", 91), ("Comparable", 37), ("Elem", 88), ("Implements", 91), ("Kind", 90), ("Name", 106), ("PkgPath", 106), ("Size", 122), ("String", 106), ("internal/reflectlite.common", 113), ("internal/reflectlite.uncommon", 123)], 1, 16, .nilIface⟩ := ⟨by kernel_rfl, by kernel_rfl⟩
theorem tab89 : TIok Tryd.prog 89 ⟨.int .u8, 1, 1, .int .u8 0⟩ := ⟨by kernel_rfl, by kernel_rfl⟩
theorem tab99 : TIok Tryd.prog 99 ⟨.interface #[("As", 101)], 1, 16, .nilIface⟩ := ⟨by kernel_rfl, by kernel_rfl⟩
theorem tab102 : TIok Tryd.prog 102 ⟨.interface #[("Unwrap", 68)], 1, 16, .nilIface⟩ := ⟨by kernel_rfl, by kernel_rfl⟩
theorem tab103 : TIok Tryd.prog 103 ⟨.interface #[("Unwrap", 105)], 1, 16, .nilIface⟩ := ⟨by kernel_rfl, by kernel_rfl⟩
theorem tab104 : TIok Tryd.prog 104 ⟨.slice 30, 1, 24, .slice none 0 0⟩ := ⟨by kernel_rfl, by kernel_rfl⟩
theorem tab115 : TIok Tryd.prog 115 ⟨.int .u8, 1, 1, .int .u8 0⟩ := ⟨by kernel_rfl, by kernel_rfl⟩
theorem tab117 : TIok Tryd.prog 117 ⟨.pointer 5, 1, 8, .pointer none⟩ := ⟨by kernel_rfl, by kernel_rfl⟩
theorem tab118 : TIok Tryd.prog 118 ⟨.int .i32, 1, 4, .int .i32 0⟩ := ⟨by kernel_rfl, by kernel_rfl⟩
theorem tab119 : TIok Tryd.prog 119 ⟨.int .i32, 1, 4, .int .i32 0⟩ := ⟨by kernel_rfl, by kernel_rfl⟩
theorem tab121 : TIok Tryd.prog 121 ⟨.struct #[⟨ "Size_", 12, 0, false, "", "", 0⟩, ⟨ "PtrBytes", 12, 1, false, "", "", 8⟩, ⟨ "Hash", 114, 2, false, "", "", 16⟩, ⟨ "TFlag", 115, 3, false, "", "", 20⟩, ⟨ "Align_", 5, 4, false, "", "", 21⟩, ⟨ "FieldAlign_", 5, 5, false, "", "", 22⟩, ⟨ "Kind_", 89, 6, false, "", "", 23⟩, ⟨ "Equal", 116, 7, false, "", "", 24⟩, ⟨ "GCData", 117, 8, false, "", "", 32⟩, ⟨ "Str", 118, 9, false, "", "", 40⟩, ⟨ "PtrToThis", 119, 10, false, "", "", 44⟩], 11, 48, .agg #[.int .u64 0, .int .u64 0, .int .u32 0, .int .u8 0, .int .u8 0, .int .u8 0, .int .u8 0, .nilFunc, .pointer none, .int .i32 0, .int .i32 0]⟩ := ⟨by kernel_rfl, by kernel_rfl⟩
theorem tab_ok : ∀ x, x ∈ tab → TIok Tryd.prog x.1 x.2 :=
  tab_cons tab3 (
  tab_cons tab4 (
  tab_cons tab5 (
  tab_cons tab9 (
  tab_cons tab12 (
  tab_cons tab114 (
  tab_cons tab0 (
  tab_cons tab17 (
  tab_cons tab20 (
  tab_cons tab22 (
  tab_cons tab24 (
  tab_cons tab26 (
  tab_cons tab28 (
  tab_cons tab30 (
  tab_cons tab64 (
  tab_cons tab70 (
  tab_cons tab76 (
  tab_cons tab78 (
  tab_cons tab80 (
  tab_cons tab82 (
  tab_cons tab84 (
  tab_cons tab87 (
  tab_cons tab89 (
  tab_cons tab99 (
  tab_cons tab102 (
  tab_cons tab103 (
  tab_cons tab104 (
  tab_cons tab115 (
  tab_cons tab117 (
  tab_cons tab118 (
  tab_cons tab119 (
  tab_cons tab121 (tab_nil))))))))))))))))))))))))))))))))
def fnl : List Nat := [3, 4, 5, 6, 7, 8, 9, 10, 11, 12, 13, 14, 15, 16, 17, 18, 19, 20, 21, 22, 23, 24, 25, 26, 27, 28, 29, 30, 31, 32, 33, 34, 35, 36, 37, 38, 39, 40, 41, 42, 43, 44, 45, 46, 47, 48, 49, 50, 51, 52, 53, 54, 55, 56, 60, 83, 102]
theorem fnl_ok : fnl.all (chkF Tryd.prog) = true := by kernel_rfl
instance : HasTab Tryd.prog := ⟨tab, tab_ok, fnl, fnl_ok, by kernel_rfl⟩
end Go.Vg
