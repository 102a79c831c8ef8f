/-
  The types that the seat's functions use, as its program has them.
-/
import Derived.Test.YtchdmhpfppdohaaDoorProg
import Derived.Test.YtchdmhpfppdohaaDoorVgH
import Derived.KernelRfl
namespace Go.Vg
open Go.Proofs
theorem tab_nil {P : Program} : ∀ x, x ∈ ([] : List (TypeId × TI)) → TIok P x.1 x.2 := fun x hx => by simp at hx
theorem tab_cons {P : Program} {t : TypeId} {i : TI} {l : List (TypeId × TI)} (h : TIok P t i) (k : ∀ x, x ∈ l → TIok P x.1 x.2) : ∀ x, x ∈ (t, i) :: l → TIok P x.1 x.2 := fun x hx => by
  rcases List.mem_cons.1 hx with rfl | hx
  · exact h
  · exact k x hx
def tab : List (TypeId × TI) :=
  [(2, ⟨.int .i64, 1, 8, .int .i64 0⟩),
   (3, ⟨.int .i64, 1, 8, .int .i64 0⟩),
   (4, ⟨.bool, 1, 1, .bool false⟩),
   (5, ⟨.int .u8, 1, 1, .int .u8 0⟩),
   (9, ⟨.string, 1, 16, .string ⟨#[]⟩⟩),
   (12, ⟨.int .u64, 1, 8, .int .u64 0⟩),
   (109, ⟨.int .u32, 1, 4, .int .u32 0⟩),
   (17, ⟨.pointer 116, 1, 8, .pointer none⟩),
   (20, ⟨.interface #[], 1, 16, .nilIface⟩),
   (22, ⟨.slice 29, 1, 24, .slice none 0 0⟩),
   (23, ⟨.slice 5, 1, 24, .slice none 0 0⟩),
   (25, ⟨.interface #[("Error", 101)], 1, 16, .nilIface⟩),
   (29, ⟨.struct #[⟨ "N", 3, 0, false, "", "", 0⟩, ⟨ "B", 23, 1, false, "", "", 8⟩], 2, 32, .agg #[.int .i64 0, .slice none 0 0]⟩),
   (41, ⟨.slice 44, 1, 24, .slice none 0 0⟩),
   (44, ⟨.struct #[⟨ "S", 9, 0, false, "", "", 0⟩, ⟨ "B", 23, 1, false, "", "", 16⟩], 2, 40, .agg #[.string ⟨#[]⟩, .slice none 0 0]⟩),
   (55, ⟨.int .i64, 1, 8, .int .i64 0⟩),
   (61, ⟨.pointer 63, 1, 8, .pointer none⟩),
   (63, ⟨.struct #[⟨ "Layer", 9, 0, false, "", "", 0⟩, ⟨ "Err", 25, 1, false, "", "", 16⟩], 2, 32, .agg #[.string ⟨#[]⟩, .nilIface]⟩),
   (65, ⟨.pointer 55, 1, 8, .pointer none⟩),
   (70, ⟨.int .u64, 1, 8, .int .u64 0⟩),
   (72, ⟨.struct #[⟨ "typ_", 17, 0, false, "", "internal/reflectlite", 0⟩, ⟨ "ptr", 69, 1, false, "", "internal/reflectlite", 8⟩, ⟨ "flag", 70, 2, true, "", "internal/reflectlite", 16⟩], 3, 24, .agg #[.pointer none, .pointer none, .int .u64 0]⟩),
   (75, ⟨.interface #[("AssignableTo", 79), ("Comparable", 34), ("Elem", 76), ("Implements", 79), ("Kind", 78), ("Name", 101), ("PkgPath", 101), ("Size", 117), ("String", 101), ("internal/reflectlite.common", 108), ("internal/reflectlite.uncommon", 118)], 1, 16, .nilIface⟩),
   (77, ⟨.int .u8, 1, 1, .int .u8 0⟩),
   (92, ⟨.interface #[("As", 94)], 1, 16, .nilIface⟩),
   (95, ⟨.interface #[("Unwrap", 96)], 1, 16, .nilIface⟩),
   (97, ⟨.interface #[("Unwrap", 99)], 1, 16, .nilIface⟩),
   (98, ⟨.slice 25, 1, 24, .slice none 0 0⟩),
   (110, ⟨.int .u8, 1, 1, .int .u8 0⟩),
   (112, ⟨.pointer 5, 1, 8, .pointer none⟩),
   (113, ⟨.int .i32, 1, 4, .int .i32 0⟩),
   (114, ⟨.int .i32, 1, 4, .int .i32 0⟩),
   (116, ⟨.struct #[⟨ "Size_", 12, 0, false, "", "", 0⟩, ⟨ "PtrBytes", 12, 1, false, "", "", 8⟩, ⟨ "Hash", 109, 2, false, "", "", 16⟩, ⟨ "TFlag", 110, 3, false, "", "", 20⟩, ⟨ "Align_", 5, 4, false, "", "", 21⟩, ⟨ "FieldAlign_", 5, 5, false, "", "", 22⟩, ⟨ "Kind_", 77, 6, false, "", "", 23⟩, ⟨ "Equal", 111, 7, false, "", "", 24⟩, ⟨ "GCData", 112, 8, false, "", "", 32⟩, ⟨ "Str", 113, 9, false, "", "", 40⟩, ⟨ "PtrToThis", 114, 10, false, "", "", 44⟩], 11, 48, .agg #[.int .u64 0, .int .u64 0, .int .u32 0, .int .u8 0, .int .u8 0, .int .u8 0, .int .u8 0, .nilFunc, .pointer none, .int .i32 0, .int .i32 0]⟩)]
theorem tab2 : TIok Tryd.prog 2 ⟨.int .i64, 1, 8, .int .i64 0⟩ := ⟨by kernel_rfl, by kernel_rfl⟩
theorem tab3 : TIok Tryd.prog 3 ⟨.int .i64, 1, 8, .int .i64 0⟩ := ⟨by kernel_rfl, by kernel_rfl⟩
theorem tab4 : TIok Tryd.prog 4 ⟨.bool, 1, 1, .bool false⟩ := ⟨by kernel_rfl, by kernel_rfl⟩
theorem tab5 : TIok Tryd.prog 5 ⟨.int .u8, 1, 1, .int .u8 0⟩ := ⟨by kernel_rfl, by kernel_rfl⟩
theorem tab9 : TIok Tryd.prog 9 ⟨.string, 1, 16, .string ⟨#[]⟩⟩ := ⟨by kernel_rfl, by kernel_rfl⟩
theorem tab12 : TIok Tryd.prog 12 ⟨.int .u64, 1, 8, .int .u64 0⟩ := ⟨by kernel_rfl, by kernel_rfl⟩
theorem tab109 : TIok Tryd.prog 109 ⟨.int .u32, 1, 4, .int .u32 0⟩ := ⟨by kernel_rfl, by kernel_rfl⟩
theorem tab17 : TIok Tryd.prog 17 ⟨.pointer 116, 1, 8, .pointer none⟩ := ⟨by kernel_rfl, by kernel_rfl⟩
theorem tab20 : TIok Tryd.prog 20 ⟨.interface #[], 1, 16, .nilIface⟩ := ⟨by kernel_rfl, by kernel_rfl⟩
theorem tab22 : TIok Tryd.prog 22 ⟨.slice 29, 1, 24, .slice none 0 0⟩ := ⟨by kernel_rfl, by kernel_rfl⟩
theorem tab23 : TIok Tryd.prog 23 ⟨.slice 5, 1, 24, .slice none 0 0⟩ := ⟨by kernel_rfl, by kernel_rfl⟩
theorem tab25 : TIok Tryd.prog 25 ⟨.interface #[("Error", 101)], 1, 16, .nilIface⟩ := ⟨by kernel_rfl, by kernel_rfl⟩
theorem tab29 : TIok Tryd.prog 29 ⟨.struct #[⟨ "N", 3, 0, false, "", "", 0⟩, ⟨ "B", 23, 1, false, "", "", 8⟩], 2, 32, .agg #[.int .i64 0, .slice none 0 0]⟩ := ⟨by kernel_rfl, by kernel_rfl⟩
theorem tab41 : TIok Tryd.prog 41 ⟨.slice 44, 1, 24, .slice none 0 0⟩ := ⟨by kernel_rfl, by kernel_rfl⟩
theorem tab44 : TIok Tryd.prog 44 ⟨.struct #[⟨ "S", 9, 0, false, "", "", 0⟩, ⟨ "B", 23, 1, false, "", "", 16⟩], 2, 40, .agg #[.string ⟨#[]⟩, .slice none 0 0]⟩ := ⟨by kernel_rfl, by kernel_rfl⟩
theorem tab55 : TIok Tryd.prog 55 ⟨.int .i64, 1, 8, .int .i64 0⟩ := ⟨by kernel_rfl, by kernel_rfl⟩
theorem tab61 : TIok Tryd.prog 61 ⟨.pointer 63, 1, 8, .pointer none⟩ := ⟨by kernel_rfl, by kernel_rfl⟩
theorem tab63 : TIok Tryd.prog 63 ⟨.struct #[⟨ "Layer", 9, 0, false, "", "", 0⟩, ⟨ "Err", 25, 1, false, "", "", 16⟩], 2, 32, .agg #[.string ⟨#[]⟩, .nilIface]⟩ := ⟨by kernel_rfl, by kernel_rfl⟩
theorem tab65 : TIok Tryd.prog 65 ⟨.pointer 55, 1, 8, .pointer none⟩ := ⟨by kernel_rfl, by kernel_rfl⟩
theorem tab70 : TIok Tryd.prog 70 ⟨.int .u64, 1, 8, .int .u64 0⟩ := ⟨by kernel_rfl, by kernel_rfl⟩
theorem tab72 : TIok Tryd.prog 72 ⟨.struct #[⟨ "typ_", 17, 0, false, "", "internal/reflectlite", 0⟩, ⟨ "ptr", 69, 1, false, "", "internal/reflectlite", 8⟩, ⟨ "flag", 70, 2, true, "", "internal/reflectlite", 16⟩], 3, 24, .agg #[.pointer none, .pointer none, .int .u64 0]⟩ := ⟨by kernel_rfl, by kernel_rfl⟩
theorem tab75 : TIok Tryd.prog 75 ⟨.interface #[("AssignableTo", 79), ("Comparable", 34), ("Elem", 76), ("Implements", 79), ("Kind", 78), ("Name", 101), ("PkgPath", 101), ("Size", 117), ("String", 101), ("internal/reflectlite.common", 108), ("internal/reflectlite.uncommon", 118)], 1, 16, .nilIface⟩ := ⟨by kernel_rfl, by kernel_rfl⟩
theorem tab77 : TIok Tryd.prog 77 ⟨.int .u8, 1, 1, .int .u8 0⟩ := ⟨by kernel_rfl, by kernel_rfl⟩
theorem tab92 : TIok Tryd.prog 92 ⟨.interface #[("As", 94)], 1, 16, .nilIface⟩ := ⟨by kernel_rfl, by kernel_rfl⟩
theorem tab95 : TIok Tryd.prog 95 ⟨.interface #[("Unwrap", 96)], 1, 16, .nilIface⟩ := ⟨by kernel_rfl, by kernel_rfl⟩
theorem tab97 : TIok Tryd.prog 97 ⟨.interface #[("Unwrap", 99)], 1, 16, .nilIface⟩ := ⟨by kernel_rfl, by kernel_rfl⟩
theorem tab98 : TIok Tryd.prog 98 ⟨.slice 25, 1, 24, .slice none 0 0⟩ := ⟨by kernel_rfl, by kernel_rfl⟩
theorem tab110 : TIok Tryd.prog 110 ⟨.int .u8, 1, 1, .int .u8 0⟩ := ⟨by kernel_rfl, by kernel_rfl⟩
theorem tab112 : TIok Tryd.prog 112 ⟨.pointer 5, 1, 8, .pointer none⟩ := ⟨by kernel_rfl, by kernel_rfl⟩
theorem tab113 : TIok Tryd.prog 113 ⟨.int .i32, 1, 4, .int .i32 0⟩ := ⟨by kernel_rfl, by kernel_rfl⟩
theorem tab114 : TIok Tryd.prog 114 ⟨.int .i32, 1, 4, .int .i32 0⟩ := ⟨by kernel_rfl, by kernel_rfl⟩
theorem tab116 : TIok Tryd.prog 116 ⟨.struct #[⟨ "Size_", 12, 0, false, "", "", 0⟩, ⟨ "PtrBytes", 12, 1, false, "", "", 8⟩, ⟨ "Hash", 109, 2, false, "", "", 16⟩, ⟨ "TFlag", 110, 3, false, "", "", 20⟩, ⟨ "Align_", 5, 4, false, "", "", 21⟩, ⟨ "FieldAlign_", 5, 5, false, "", "", 22⟩, ⟨ "Kind_", 77, 6, false, "", "", 23⟩, ⟨ "Equal", 111, 7, false, "", "", 24⟩, ⟨ "GCData", 112, 8, false, "", "", 32⟩, ⟨ "Str", 113, 9, false, "", "", 40⟩, ⟨ "PtrToThis", 114, 10, false, "", "", 44⟩], 11, 48, .agg #[.int .u64 0, .int .u64 0, .int .u32 0, .int .u8 0, .int .u8 0, .int .u8 0, .int .u8 0, .nilFunc, .pointer none, .int .i32 0, .int .i32 0]⟩ := ⟨by kernel_rfl, by kernel_rfl⟩
theorem tab_ok : ∀ x, x ∈ tab → TIok Tryd.prog x.1 x.2 :=
  tab_cons tab2 (
  tab_cons tab3 (
  tab_cons tab4 (
  tab_cons tab5 (
  tab_cons tab9 (
  tab_cons tab12 (
  tab_cons tab109 (
  tab_cons tab17 (
  tab_cons tab20 (
  tab_cons tab22 (
  tab_cons tab23 (
  tab_cons tab25 (
  tab_cons tab29 (
  tab_cons tab41 (
  tab_cons tab44 (
  tab_cons tab55 (
  tab_cons tab61 (
  tab_cons tab63 (
  tab_cons tab65 (
  tab_cons tab70 (
  tab_cons tab72 (
  tab_cons tab75 (
  tab_cons tab77 (
  tab_cons tab92 (
  tab_cons tab95 (
  tab_cons tab97 (
  tab_cons tab98 (
  tab_cons tab110 (
  tab_cons tab112 (
  tab_cons tab113 (
  tab_cons tab114 (
  tab_cons tab116 (tab_nil))))))))))))))))))))))))))))))))
def fnl : List Nat := [3, 4, 5, 6, 7, 8, 9, 10, 11, 12, 13, 14, 15, 16, 17, 18, 19, 20, 21, 22, 23, 24, 25, 26, 27, 28, 29, 30, 31, 32, 33, 34, 35, 36, 37, 38, 39, 40, 44, 45, 46, 70, 91]
theorem fnl_ok : fnl.all (chkF Tryd.prog) = true := by kernel_rfl
instance : HasTab Tryd.prog := ⟨tab, tab_ok, fnl, fnl_ok, by kernel_rfl⟩
end Go.Vg
