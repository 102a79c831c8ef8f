/-
  The types that the seat's functions use, as its program has them.
-/
import Derived.Test.YtchdmhpfppdohaaProg
import Derived.Test.YtchdmhpfppdohaaVgH
import Derived.KernelRfl
namespace Go.Vg
open Go.Proofs
theorem tab_nil {P : Program} : ∀ x, x ∈ ([] : List (TypeId × TI)) → TIok P x.1 x.2 := fun x hx => by simp at hx
theorem tab_cons {P : Program} {t : TypeId} {i : TI} {l : List (TypeId × TI)} (h : TIok P t i) (k : ∀ x, x ∈ l → TIok P x.1 x.2) : ∀ x, x ∈ (t, i) :: l → TIok P x.1 x.2 := fun x hx => by
  rcases List.mem_cons.1 hx with rfl | hx
  · exact h
  · exact k x hx
def tab : List (TypeId × TI) :=
  [(3, ⟨.int .i64, 1, 8, .int .i64 0⟩),
   (5, ⟨.int .u8, 1, 1, .int .u8 0⟩),
   (9, ⟨.string, 1, 16, .string ⟨#[]⟩⟩),
   (23, ⟨.int .u64, 1, 8, .int .u64 0⟩),
   (33, ⟨.int .u32, 1, 4, .int .u32 0⟩),
   (42, ⟨.int .u64, 1, 8, .int .u64 0⟩),
   (22, ⟨.slice 27, 1, 24, .slice none 0 0⟩),
   (27, ⟨.struct #[⟨ "S", 23, 0, false, "", "", 0⟩, ⟨ "N", 3, 1, false, "", "", 8⟩], 2, 16, .agg #[.int .u64 0, .int .i64 0]⟩),
   (31, ⟨.array 8 3, 8, 64, .agg #[.int .i64 0, .int .i64 0, .int .i64 0, .int .i64 0, .int .i64 0, .int .i64 0, .int .i64 0, .int .i64 0]⟩),
   (32, ⟨.slice 36, 1, 24, .slice none 0 0⟩),
   (34, ⟨.slice 5, 1, 24, .slice none 0 0⟩),
   (4, ⟨.bool, 1, 1, .bool false⟩),
   (44, ⟨.array 256 33, 256, 1024, .agg (List.replicate 256 (.int .u32 0)).toArray⟩),
   (36, ⟨.struct #[⟨ "S", 33, 0, false, "", "", 0⟩, ⟨ "B", 34, 1, false, "", "", 8⟩, ⟨ "N", 3, 2, false, "", "", 32⟩], 3, 40, .agg #[.int .u32 0, .slice none 0 0, .int .i64 0]⟩)]
theorem tab3 : TIok Try.prog 3 ⟨.int .i64, 1, 8, .int .i64 0⟩ := ⟨by kernel_rfl, by kernel_rfl⟩
theorem tab5 : TIok Try.prog 5 ⟨.int .u8, 1, 1, .int .u8 0⟩ := ⟨by kernel_rfl, by kernel_rfl⟩
theorem tab9 : TIok Try.prog 9 ⟨.string, 1, 16, .string ⟨#[]⟩⟩ := ⟨by kernel_rfl, by kernel_rfl⟩
theorem tab23 : TIok Try.prog 23 ⟨.int .u64, 1, 8, .int .u64 0⟩ := ⟨by kernel_rfl, by kernel_rfl⟩
theorem tab33 : TIok Try.prog 33 ⟨.int .u32, 1, 4, .int .u32 0⟩ := ⟨by kernel_rfl, by kernel_rfl⟩
theorem tab42 : TIok Try.prog 42 ⟨.int .u64, 1, 8, .int .u64 0⟩ := ⟨by kernel_rfl, by kernel_rfl⟩
theorem tab22 : TIok Try.prog 22 ⟨.slice 27, 1, 24, .slice none 0 0⟩ := ⟨by kernel_rfl, by kernel_rfl⟩
theorem tab27 : TIok Try.prog 27 ⟨.struct #[⟨ "S", 23, 0, false, "", "", 0⟩, ⟨ "N", 3, 1, false, "", "", 8⟩], 2, 16, .agg #[.int .u64 0, .int .i64 0]⟩ := ⟨by kernel_rfl, by kernel_rfl⟩
theorem tab31 : TIok Try.prog 31 ⟨.array 8 3, 8, 64, .agg #[.int .i64 0, .int .i64 0, .int .i64 0, .int .i64 0, .int .i64 0, .int .i64 0, .int .i64 0, .int .i64 0]⟩ := ⟨by kernel_rfl, by kernel_rfl⟩
theorem tab32 : TIok Try.prog 32 ⟨.slice 36, 1, 24, .slice none 0 0⟩ := ⟨by kernel_rfl, by kernel_rfl⟩
theorem tab34 : TIok Try.prog 34 ⟨.slice 5, 1, 24, .slice none 0 0⟩ := ⟨by kernel_rfl, by kernel_rfl⟩
theorem tab4 : TIok Try.prog 4 ⟨.bool, 1, 1, .bool false⟩ := ⟨by kernel_rfl, by kernel_rfl⟩
theorem tab44 : TIok Try.prog 44 ⟨.array 256 33, 256, 1024, .agg (List.replicate 256 (.int .u32 0)).toArray⟩ := ⟨by kernel_rfl, by kernel_rfl⟩
theorem tab36 : TIok Try.prog 36 ⟨.struct #[⟨ "S", 33, 0, false, "", "", 0⟩, ⟨ "B", 34, 1, false, "", "", 8⟩, ⟨ "N", 3, 2, false, "", "", 32⟩], 3, 40, .agg #[.int .u32 0, .slice none 0 0, .int .i64 0]⟩ := ⟨by kernel_rfl, by kernel_rfl⟩
theorem tab_ok : ∀ x, x ∈ tab → TIok Try.prog x.1 x.2 :=
  tab_cons tab3 (
  tab_cons tab5 (
  tab_cons tab9 (
  tab_cons tab23 (
  tab_cons tab33 (
  tab_cons tab42 (
  tab_cons tab22 (
  tab_cons tab27 (
  tab_cons tab31 (
  tab_cons tab32 (
  tab_cons tab34 (
  tab_cons tab4 (
  tab_cons tab44 (
  tab_cons tab36 (tab_nil))))))))))))))
def fnl : List Nat := [3, 4, 5, 6, 7, 8, 9, 10, 11, 12, 13, 14, 15, 16, 17, 18, 19, 20]
theorem fnl_ok : fnl.all (chkF Try.prog) = true := by kernel_rfl
instance : HasTab Try.prog := ⟨tab, tab_ok, fnl, fnl_ok, by kernel_rfl⟩
end Go.Vg
