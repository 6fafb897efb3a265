/- Facts on the types and functions of the program. -/
import Derived.Test.YtimkkhefemnkpaaVm13
import Derived.Test.YtimkkhefemnkpaaProg
import Derived.KernelRfl
namespace Go.Vm
open Go Go.Proofs

instance : Ty Try.prog 1 false 1 := ⟨(fun _ => by kernel_rfl), (fun _ => by kernel_rfl)⟩
instance : Zer Try.prog 1 (.nilf) := ⟨(fun _ => by kernel_rfl), rfl, (fun _ => by simp [VOk])⟩
instance : Ty Try.prog 2 false 1 := ⟨(fun _ => by kernel_rfl), (fun _ => by kernel_rfl)⟩
instance : Und Try.prog 2 (.int .i64) := ⟨by kernel_rfl⟩
instance : Zer Try.prog 2 (.int .i64 0) := ⟨(fun _ => by kernel_rfl), rfl, (fun _ => by simp [VOk])⟩
instance : Ty Try.prog 3 false 1 := ⟨(fun _ => by kernel_rfl), (fun _ => by kernel_rfl)⟩
instance : Und Try.prog 3 (.int .i64) := ⟨by kernel_rfl⟩
instance : Zer Try.prog 3 (.int .i64 0) := ⟨(fun _ => by kernel_rfl), rfl, (fun _ => by simp [VOk])⟩
instance : Ty Try.prog 4 false 1 := ⟨(fun _ => by kernel_rfl), (fun _ => by kernel_rfl)⟩
instance : Und Try.prog 4 .bool := ⟨by kernel_rfl⟩
instance : Zer Try.prog 4 (.bool false) := ⟨(fun _ => by kernel_rfl), rfl, (fun _ => by simp [VOk])⟩
instance : Ty Try.prog 5 false 1 := ⟨(fun _ => by kernel_rfl), (fun _ => by kernel_rfl)⟩
instance : Und Try.prog 5 (.int .u8) := ⟨by kernel_rfl⟩
instance : Zer Try.prog 5 (.int .u8 0) := ⟨(fun _ => by kernel_rfl), rfl, (fun _ => by simp [VOk])⟩
instance : Ty Try.prog 9 false 1 := ⟨(fun _ => by kernel_rfl), (fun _ => by kernel_rfl)⟩
instance : Und Try.prog 9 .string := ⟨by kernel_rfl⟩
instance : Zer Try.prog 9 (.str ⟨#[]⟩) := ⟨(fun _ => by kernel_rfl), rfl, (fun _ => by simp [VOk])⟩
instance : Ty Try.prog 12 false 1 := ⟨(fun _ => by kernel_rfl), (fun _ => by kernel_rfl)⟩
instance : Und Try.prog 12 (.int .u64) := ⟨by kernel_rfl⟩
instance : Zer Try.prog 12 (.int .u64 0) := ⟨(fun _ => by kernel_rfl), rfl, (fun _ => by simp [VOk])⟩
instance : Ty Try.prog 13 true 2 := ⟨(fun _ => by kernel_rfl), (fun _ => by kernel_rfl)⟩
instance : Fld Try.prog 13 0 0 false 1 := Fld.mk' ((fieldsOf Try.prog 13).getD 0 default) (fun _ => by kernel_rfl) (by kernel_rfl) (by kernel_rfl) (fun _ => by kernel_rfl) (fun _ => by kernel_rfl) (by decide)
instance : Fld Try.prog 13 1 1 false 1 := Fld.mk' ((fieldsOf Try.prog 13).getD 1 default) (fun _ => by kernel_rfl) (by kernel_rfl) (by kernel_rfl) (fun _ => by kernel_rfl) (fun _ => by kernel_rfl) (by decide)
instance : Zer Try.prog 13 (.pair (.str ⟨#[]⟩) (.int .u64 0)) := ⟨(fun _ => by kernel_rfl), rfl, (fun _ => by simp [VOk])⟩
instance : Bld Try.prog 13 (.pair (.str ⟨#[]⟩) (.int .u64 0)) #[(0, 1), (1, 1)] := Bld.struct (fun _ => by kernel_rfl) (fun _ => by kernel_rfl) (fun _ => by kernel_rfl) rfl rfl (fun _ => by simp [VOk])
instance : Ty Try.prog 19 true 1 := ⟨(fun _ => by kernel_rfl), (fun _ => by kernel_rfl)⟩
instance : Fld Try.prog 19 0 0 false 1 := Fld.mk' ((fieldsOf Try.prog 19).getD 0 default) (fun _ => by kernel_rfl) (by kernel_rfl) (by kernel_rfl) (fun _ => by kernel_rfl) (fun _ => by kernel_rfl) (by decide)
instance : Zer Try.prog 19 (.pair (.nilp) .unit) := ⟨(fun _ => by kernel_rfl), rfl, (fun _ => by simp [VOk])⟩
instance : Bld Try.prog 19 (.pair (.nilp) .unit) #[(0, 1)] := Bld.struct (fun _ => by kernel_rfl) (fun _ => by kernel_rfl) (fun _ => by kernel_rfl) rfl rfl (fun _ => by simp [VOk])
instance : Ty Try.prog 20 false 1 := ⟨(fun _ => by kernel_rfl), (fun _ => by kernel_rfl)⟩
instance : Ty Try.prog 21 false 1 := ⟨(fun _ => by kernel_rfl), (fun _ => by kernel_rfl)⟩
instance : Und Try.prog 21 (.int .i32) := ⟨by kernel_rfl⟩
instance : Zer Try.prog 21 (.int .i32 0) := ⟨(fun _ => by kernel_rfl), rfl, (fun _ => by simp [VOk])⟩
instance : Ty Try.prog 22 false 1 := ⟨(fun _ => by kernel_rfl), (fun _ => by kernel_rfl)⟩
instance : Slc Try.prog 22 41 86 := ⟨(fun _ => by kernel_rfl), (fun _ => by kernel_rfl)⟩
instance : Ela Try.prog 22 41 86 128 := ⟨⟨(Try.prog.info? 41).getD default, ((Try.prog.info? 41).getD default).zero.getD (.bool false), by kernel_rfl, by kernel_rfl, by kernel_rfl, by kernel_rfl, by kernel_rfl, by kernel_rfl⟩, by decide⟩
instance : Zer Try.prog 22 (.sl 0 none 0 0 0 0) := ⟨(fun _ => by kernel_rfl), rfl, (fun _ => by simp [VOk])⟩
instance : Ty Try.prog 23 false 1 := ⟨(fun _ => by kernel_rfl), (fun _ => by kernel_rfl)⟩
instance : Zer Try.prog 23 (.nilf) := ⟨(fun _ => by kernel_rfl), rfl, (fun _ => by simp [VOk])⟩
instance : Ty Try.prog 24 false 1 := ⟨(fun _ => by kernel_rfl), (fun _ => by kernel_rfl)⟩
instance : Und Try.prog 24 (.pointer 93) := ⟨by kernel_rfl⟩
instance : Zer Try.prog 24 (.nilp) := ⟨(fun _ => by kernel_rfl), rfl, (fun _ => by simp [VOk])⟩
instance : Ty Try.prog 25 false 1 := ⟨(fun _ => by kernel_rfl), (fun _ => by kernel_rfl)⟩
instance : Zer Try.prog 25 (.nilf) := ⟨(fun _ => by kernel_rfl), rfl, (fun _ => by simp [VOk])⟩
instance : Ty Try.prog 26 false 1 := ⟨(fun _ => by kernel_rfl), (fun _ => by kernel_rfl)⟩
instance : Und Try.prog 26 (.pointer 29) := ⟨by kernel_rfl⟩
instance : Zer Try.prog 26 (.nilp) := ⟨(fun _ => by kernel_rfl), rfl, (fun _ => by simp [VOk])⟩
instance : Ty Try.prog 27 false 1 := ⟨(fun _ => by kernel_rfl), (fun _ => by kernel_rfl)⟩
instance : Slc Try.prog 27 37 51 := ⟨(fun _ => by kernel_rfl), (fun _ => by kernel_rfl)⟩
instance : Ela Try.prog 27 37 51 72 := ⟨⟨(Try.prog.info? 37).getD default, ((Try.prog.info? 37).getD default).zero.getD (.bool false), by kernel_rfl, by kernel_rfl, by kernel_rfl, by kernel_rfl, by kernel_rfl, by kernel_rfl⟩, by decide⟩
instance : Zer Try.prog 27 (.sl 0 none 0 0 0 0) := ⟨(fun _ => by kernel_rfl), rfl, (fun _ => by simp [VOk])⟩
instance : Ty Try.prog 28 true 3 := ⟨(fun _ => by kernel_rfl), (fun _ => by kernel_rfl)⟩
instance : Fld Try.prog 28 0 0 false 1 := Fld.mk' ((fieldsOf Try.prog 28).getD 0 default) (fun _ => by kernel_rfl) (by kernel_rfl) (by kernel_rfl) (fun _ => by kernel_rfl) (fun _ => by kernel_rfl) (by decide)
instance : Fld Try.prog 28 1 1 false 1 := Fld.mk' ((fieldsOf Try.prog 28).getD 1 default) (fun _ => by kernel_rfl) (by kernel_rfl) (by kernel_rfl) (fun _ => by kernel_rfl) (fun _ => by kernel_rfl) (by decide)
instance : Fld Try.prog 28 2 2 false 1 := Fld.mk' ((fieldsOf Try.prog 28).getD 2 default) (fun _ => by kernel_rfl) (by kernel_rfl) (by kernel_rfl) (fun _ => by kernel_rfl) (fun _ => by kernel_rfl) (by decide)
instance : Zer Try.prog 28 (.pair (.sl 0 none 0 0 0 0) (.pair (.sl 0 none 0 0 0 0) (.int .i64 0))) := ⟨(fun _ => by kernel_rfl), rfl, (fun _ => by simp [VOk])⟩
instance : Bld Try.prog 28 (.pair (.sl 0 none 0 0 0 0) (.pair (.sl 0 none 0 0 0 0) (.int .i64 0))) #[(0, 1), (1, 1), (2, 1)] := Bld.struct (fun _ => by kernel_rfl) (fun _ => by kernel_rfl) (fun _ => by kernel_rfl) rfl rfl (fun _ => by simp [VOk])
instance : Ty Try.prog 29 true 3 := ⟨(fun _ => by kernel_rfl), (fun _ => by kernel_rfl)⟩
instance : Fld Try.prog 29 0 0 false 1 := Fld.mk' ((fieldsOf Try.prog 29).getD 0 default) (fun _ => by kernel_rfl) (by kernel_rfl) (by kernel_rfl) (fun _ => by kernel_rfl) (fun _ => by kernel_rfl) (by decide)
instance : Fld Try.prog 29 1 1 false 1 := Fld.mk' ((fieldsOf Try.prog 29).getD 1 default) (fun _ => by kernel_rfl) (by kernel_rfl) (by kernel_rfl) (fun _ => by kernel_rfl) (fun _ => by kernel_rfl) (by decide)
instance : Fld Try.prog 29 2 2 false 1 := Fld.mk' ((fieldsOf Try.prog 29).getD 2 default) (fun _ => by kernel_rfl) (by kernel_rfl) (by kernel_rfl) (fun _ => by kernel_rfl) (fun _ => by kernel_rfl) (by decide)
instance : Zer Try.prog 29 (.pair (.sl 0 none 0 0 0 0) (.pair (.sl 0 none 0 0 0 0) (.int .i64 0))) := ⟨(fun _ => by kernel_rfl), rfl, (fun _ => by simp [VOk])⟩
instance : Bld Try.prog 29 (.pair (.sl 0 none 0 0 0 0) (.pair (.sl 0 none 0 0 0 0) (.int .i64 0))) #[(0, 1), (1, 1), (2, 1)] := Bld.struct (fun _ => by kernel_rfl) (fun _ => by kernel_rfl) (fun _ => by kernel_rfl) rfl rfl (fun _ => by simp [VOk])
instance : Ty Try.prog 30 true 16 := ⟨(fun _ => by kernel_rfl), (fun _ => by kernel_rfl)⟩
instance : Arr Try.prog 30 16 5 1 := ⟨(fun _ => by kernel_rfl), (fun _ => by kernel_rfl), by decide⟩
instance : Zer Try.prog 30 (.bytes 16 (List.replicate 16 0)) := ⟨(fun _ => by kernel_rfl), rfl, (fun _ => by simp [VOk])⟩
instance : Bld Try.prog 30 (.bytes 16 (List.replicate 16 0)) #[(0, 1), (1, 1), (2, 1), (3, 1), (4, 1), (5, 1), (6, 1), (7, 1), (8, 1), (9, 1), (10, 1), (11, 1), (12, 1), (13, 1), (14, 1), (15, 1)] := Bld.array' (m := 16) (E := 5) (n := 1) (by kernel_rfl) (fun _ => by kernel_rfl) (fun _ => by kernel_rfl) (fun _ => by kernel_rfl) rfl rfl (fun _ => by simp [VOk])
instance : Ty Try.prog 31 true 16 := ⟨(fun _ => by kernel_rfl), (fun _ => by kernel_rfl)⟩
instance : Arr Try.prog 31 16 5 1 := ⟨(fun _ => by kernel_rfl), (fun _ => by kernel_rfl), by decide⟩
instance : Zer Try.prog 31 (.bytes 16 (List.replicate 16 0)) := ⟨(fun _ => by kernel_rfl), rfl, (fun _ => by simp [VOk])⟩
instance : Bld Try.prog 31 (.bytes 16 (List.replicate 16 0)) #[(0, 1), (1, 1), (2, 1), (3, 1), (4, 1), (5, 1), (6, 1), (7, 1), (8, 1), (9, 1), (10, 1), (11, 1), (12, 1), (13, 1), (14, 1), (15, 1)] := Bld.array' (m := 16) (E := 5) (n := 1) (by kernel_rfl) (fun _ => by kernel_rfl) (fun _ => by kernel_rfl) (fun _ => by kernel_rfl) rfl rfl (fun _ => by simp [VOk])
instance : Ty Try.prog 32 true 17 := ⟨(fun _ => by kernel_rfl), (fun _ => by kernel_rfl)⟩
instance : Fld Try.prog 32 0 0 true 16 := Fld.mk' ((fieldsOf Try.prog 32).getD 0 default) (fun _ => by kernel_rfl) (by kernel_rfl) (by kernel_rfl) (fun _ => by kernel_rfl) (fun _ => by kernel_rfl) (by decide)
instance : Fld Try.prog 32 1 16 false 1 := Fld.mk' ((fieldsOf Try.prog 32).getD 1 default) (fun _ => by kernel_rfl) (by kernel_rfl) (by kernel_rfl) (fun _ => by kernel_rfl) (fun _ => by kernel_rfl) (by decide)
instance : Zer Try.prog 32 (.pair (.bytes 16 (List.replicate 16 0)) (.int .i64 0)) := ⟨(fun _ => by kernel_rfl), rfl, (fun _ => by simp [VOk])⟩
instance : Bld Try.prog 32 (.pair (.bytes 16 (List.replicate 16 0)) (.int .i64 0)) #[(0, 16), (16, 1)] := Bld.struct (fun _ => by kernel_rfl) (fun _ => by kernel_rfl) (fun _ => by kernel_rfl) rfl rfl (fun _ => by simp [VOk])
instance : Ty Try.prog 33 true 17 := ⟨(fun _ => by kernel_rfl), (fun _ => by kernel_rfl)⟩
instance : Fld Try.prog 33 0 0 true 16 := Fld.mk' ((fieldsOf Try.prog 33).getD 0 default) (fun _ => by kernel_rfl) (by kernel_rfl) (by kernel_rfl) (fun _ => by kernel_rfl) (fun _ => by kernel_rfl) (by decide)
instance : Fld Try.prog 33 1 16 false 1 := Fld.mk' ((fieldsOf Try.prog 33).getD 1 default) (fun _ => by kernel_rfl) (by kernel_rfl) (by kernel_rfl) (fun _ => by kernel_rfl) (fun _ => by kernel_rfl) (by decide)
instance : Zer Try.prog 33 (.pair (.bytes 16 (List.replicate 16 0)) (.int .i64 0)) := ⟨(fun _ => by kernel_rfl), rfl, (fun _ => by simp [VOk])⟩
instance : Bld Try.prog 33 (.pair (.bytes 16 (List.replicate 16 0)) (.int .i64 0)) #[(0, 16), (16, 1)] := Bld.struct (fun _ => by kernel_rfl) (fun _ => by kernel_rfl) (fun _ => by kernel_rfl) rfl rfl (fun _ => by simp [VOk])
instance : Ty Try.prog 34 true 34 := ⟨(fun _ => by kernel_rfl), (fun _ => by kernel_rfl)⟩
instance : Fld Try.prog 34 0 0 true 17 := Fld.mk' ((fieldsOf Try.prog 34).getD 0 default) (fun _ => by kernel_rfl) (by kernel_rfl) (by kernel_rfl) (fun _ => by kernel_rfl) (fun _ => by kernel_rfl) (by decide)
instance : Fld Try.prog 34 1 17 true 17 := Fld.mk' ((fieldsOf Try.prog 34).getD 1 default) (fun _ => by kernel_rfl) (by kernel_rfl) (by kernel_rfl) (fun _ => by kernel_rfl) (fun _ => by kernel_rfl) (by decide)
instance : Zer Try.prog 34 (.pair (.pair (.bytes 16 (List.replicate 16 0)) (.int .i64 0)) (.pair (.bytes 16 (List.replicate 16 0)) (.int .i64 0))) := ⟨(fun _ => by kernel_rfl), rfl, (fun _ => by simp [VOk])⟩
instance : Bld Try.prog 34 (.pair (.pair (.bytes 16 (List.replicate 16 0)) (.int .i64 0)) (.pair (.bytes 16 (List.replicate 16 0)) (.int .i64 0))) #[(0, 17), (17, 17)] := Bld.struct (fun _ => by kernel_rfl) (fun _ => by kernel_rfl) (fun _ => by kernel_rfl) rfl rfl (fun _ => by simp [VOk])
instance : Ty Try.prog 35 true 34 := ⟨(fun _ => by kernel_rfl), (fun _ => by kernel_rfl)⟩
instance : Fld Try.prog 35 0 0 true 17 := Fld.mk' ((fieldsOf Try.prog 35).getD 0 default) (fun _ => by kernel_rfl) (by kernel_rfl) (by kernel_rfl) (fun _ => by kernel_rfl) (fun _ => by kernel_rfl) (by decide)
instance : Fld Try.prog 35 1 17 true 17 := Fld.mk' ((fieldsOf Try.prog 35).getD 1 default) (fun _ => by kernel_rfl) (by kernel_rfl) (by kernel_rfl) (fun _ => by kernel_rfl) (fun _ => by kernel_rfl) (by decide)
instance : Zer Try.prog 35 (.pair (.pair (.bytes 16 (List.replicate 16 0)) (.int .i64 0)) (.pair (.bytes 16 (List.replicate 16 0)) (.int .i64 0))) := ⟨(fun _ => by kernel_rfl), rfl, (fun _ => by simp [VOk])⟩
instance : Bld Try.prog 35 (.pair (.pair (.bytes 16 (List.replicate 16 0)) (.int .i64 0)) (.pair (.bytes 16 (List.replicate 16 0)) (.int .i64 0))) #[(0, 17), (17, 17)] := Bld.struct (fun _ => by kernel_rfl) (fun _ => by kernel_rfl) (fun _ => by kernel_rfl) rfl rfl (fun _ => by simp [VOk])
instance : Ty Try.prog 36 true 51 := ⟨(fun _ => by kernel_rfl), (fun _ => by kernel_rfl)⟩
instance : Fld Try.prog 36 0 0 true 34 := Fld.mk' ((fieldsOf Try.prog 36).getD 0 default) (fun _ => by kernel_rfl) (by kernel_rfl) (by kernel_rfl) (fun _ => by kernel_rfl) (fun _ => by kernel_rfl) (by decide)
instance : Fld Try.prog 36 1 34 false 1 := Fld.mk' ((fieldsOf Try.prog 36).getD 1 default) (fun _ => by kernel_rfl) (by kernel_rfl) (by kernel_rfl) (fun _ => by kernel_rfl) (fun _ => by kernel_rfl) (by decide)
instance : Fld Try.prog 36 2 35 true 16 := Fld.mk' ((fieldsOf Try.prog 36).getD 2 default) (fun _ => by kernel_rfl) (by kernel_rfl) (by kernel_rfl) (fun _ => by kernel_rfl) (fun _ => by kernel_rfl) (by decide)
instance : Zer Try.prog 36 (.pair (.pair (.pair (.bytes 16 (List.replicate 16 0)) (.int .i64 0)) (.pair (.bytes 16 (List.replicate 16 0)) (.int .i64 0))) (.pair (.int .i64 0) (.bytes 16 (List.replicate 16 0)))) := ⟨(fun _ => by kernel_rfl), rfl, (fun _ => by simp [VOk])⟩
instance : Bld Try.prog 36 (.pair (.pair (.pair (.bytes 16 (List.replicate 16 0)) (.int .i64 0)) (.pair (.bytes 16 (List.replicate 16 0)) (.int .i64 0))) (.pair (.int .i64 0) (.bytes 16 (List.replicate 16 0)))) #[(0, 34), (34, 1), (35, 16)] := Bld.struct (fun _ => by kernel_rfl) (fun _ => by kernel_rfl) (fun _ => by kernel_rfl) rfl rfl (fun _ => by simp [VOk])
instance : Ty Try.prog 37 true 51 := ⟨(fun _ => by kernel_rfl), (fun _ => by kernel_rfl)⟩
instance : Fld Try.prog 37 0 0 true 34 := Fld.mk' ((fieldsOf Try.prog 37).getD 0 default) (fun _ => by kernel_rfl) (by kernel_rfl) (by kernel_rfl) (fun _ => by kernel_rfl) (fun _ => by kernel_rfl) (by decide)
instance : Fld Try.prog 37 1 34 false 1 := Fld.mk' ((fieldsOf Try.prog 37).getD 1 default) (fun _ => by kernel_rfl) (by kernel_rfl) (by kernel_rfl) (fun _ => by kernel_rfl) (fun _ => by kernel_rfl) (by decide)
instance : Fld Try.prog 37 2 35 true 16 := Fld.mk' ((fieldsOf Try.prog 37).getD 2 default) (fun _ => by kernel_rfl) (by kernel_rfl) (by kernel_rfl) (fun _ => by kernel_rfl) (fun _ => by kernel_rfl) (by decide)
instance : Zer Try.prog 37 (.pair (.pair (.pair (.bytes 16 (List.replicate 16 0)) (.int .i64 0)) (.pair (.bytes 16 (List.replicate 16 0)) (.int .i64 0))) (.pair (.int .i64 0) (.bytes 16 (List.replicate 16 0)))) := ⟨(fun _ => by kernel_rfl), rfl, (fun _ => by simp [VOk])⟩
instance : Bld Try.prog 37 (.pair (.pair (.pair (.bytes 16 (List.replicate 16 0)) (.int .i64 0)) (.pair (.bytes 16 (List.replicate 16 0)) (.int .i64 0))) (.pair (.int .i64 0) (.bytes 16 (List.replicate 16 0)))) #[(0, 34), (34, 1), (35, 16)] := Bld.struct (fun _ => by kernel_rfl) (fun _ => by kernel_rfl) (fun _ => by kernel_rfl) rfl rfl (fun _ => by simp [VOk])
instance : Ty Try.prog 38 true 52 := ⟨(fun _ => by kernel_rfl), (fun _ => by kernel_rfl)⟩
instance : Fld Try.prog 38 0 0 false 1 := Fld.mk' ((fieldsOf Try.prog 38).getD 0 default) (fun _ => by kernel_rfl) (by kernel_rfl) (by kernel_rfl) (fun _ => by kernel_rfl) (fun _ => by kernel_rfl) (by decide)
instance : Fld Try.prog 38 1 1 true 51 := Fld.mk' ((fieldsOf Try.prog 38).getD 1 default) (fun _ => by kernel_rfl) (by kernel_rfl) (by kernel_rfl) (fun _ => by kernel_rfl) (fun _ => by kernel_rfl) (by decide)
instance : Zer Try.prog 38 (.pair (.int .i64 0) (.pair (.pair (.pair (.bytes 16 (List.replicate 16 0)) (.int .i64 0)) (.pair (.bytes 16 (List.replicate 16 0)) (.int .i64 0))) (.pair (.int .i64 0) (.bytes 16 (List.replicate 16 0))))) := ⟨(fun _ => by kernel_rfl), rfl, (fun _ => by simp [VOk])⟩
instance : Bld Try.prog 38 (.pair (.int .i64 0) (.pair (.pair (.pair (.bytes 16 (List.replicate 16 0)) (.int .i64 0)) (.pair (.bytes 16 (List.replicate 16 0)) (.int .i64 0))) (.pair (.int .i64 0) (.bytes 16 (List.replicate 16 0))))) #[(0, 1), (1, 51)] := Bld.struct (fun _ => by kernel_rfl) (fun _ => by kernel_rfl) (fun _ => by kernel_rfl) rfl rfl (fun _ => by simp [VOk])
instance : Ty Try.prog 39 true 52 := ⟨(fun _ => by kernel_rfl), (fun _ => by kernel_rfl)⟩
instance : Fld Try.prog 39 0 0 false 1 := Fld.mk' ((fieldsOf Try.prog 39).getD 0 default) (fun _ => by kernel_rfl) (by kernel_rfl) (by kernel_rfl) (fun _ => by kernel_rfl) (fun _ => by kernel_rfl) (by decide)
instance : Fld Try.prog 39 1 1 true 51 := Fld.mk' ((fieldsOf Try.prog 39).getD 1 default) (fun _ => by kernel_rfl) (by kernel_rfl) (by kernel_rfl) (fun _ => by kernel_rfl) (fun _ => by kernel_rfl) (by decide)
instance : Zer Try.prog 39 (.pair (.int .i64 0) (.pair (.pair (.pair (.bytes 16 (List.replicate 16 0)) (.int .i64 0)) (.pair (.bytes 16 (List.replicate 16 0)) (.int .i64 0))) (.pair (.int .i64 0) (.bytes 16 (List.replicate 16 0))))) := ⟨(fun _ => by kernel_rfl), rfl, (fun _ => by simp [VOk])⟩
instance : Bld Try.prog 39 (.pair (.int .i64 0) (.pair (.pair (.pair (.bytes 16 (List.replicate 16 0)) (.int .i64 0)) (.pair (.bytes 16 (List.replicate 16 0)) (.int .i64 0))) (.pair (.int .i64 0) (.bytes 16 (List.replicate 16 0))))) #[(0, 1), (1, 51)] := Bld.struct (fun _ => by kernel_rfl) (fun _ => by kernel_rfl) (fun _ => by kernel_rfl) rfl rfl (fun _ => by simp [VOk])
instance : Ty Try.prog 40 true 86 := ⟨(fun _ => by kernel_rfl), (fun _ => by kernel_rfl)⟩
instance : Fld Try.prog 40 0 0 false 1 := Fld.mk' ((fieldsOf Try.prog 40).getD 0 default) (fun _ => by kernel_rfl) (by kernel_rfl) (by kernel_rfl) (fun _ => by kernel_rfl) (fun _ => by kernel_rfl) (by decide)
instance : Fld Try.prog 40 1 1 true 52 := Fld.mk' ((fieldsOf Try.prog 40).getD 1 default) (fun _ => by kernel_rfl) (by kernel_rfl) (by kernel_rfl) (fun _ => by kernel_rfl) (fun _ => by kernel_rfl) (by decide)
instance : Fld Try.prog 40 2 53 false 1 := Fld.mk' ((fieldsOf Try.prog 40).getD 2 default) (fun _ => by kernel_rfl) (by kernel_rfl) (by kernel_rfl) (fun _ => by kernel_rfl) (fun _ => by kernel_rfl) (by decide)
instance : Fld Try.prog 40 3 54 true 16 := Fld.mk' ((fieldsOf Try.prog 40).getD 3 default) (fun _ => by kernel_rfl) (by kernel_rfl) (by kernel_rfl) (fun _ => by kernel_rfl) (fun _ => by kernel_rfl) (by decide)
instance : Fld Try.prog 40 4 70 true 16 := Fld.mk' ((fieldsOf Try.prog 40).getD 4 default) (fun _ => by kernel_rfl) (by kernel_rfl) (by kernel_rfl) (fun _ => by kernel_rfl) (fun _ => by kernel_rfl) (by decide)
instance : Zer Try.prog 40 (.pair (.int .i64 0) (.pair (.pair (.int .i64 0) (.pair (.pair (.pair (.bytes 16 (List.replicate 16 0)) (.int .i64 0)) (.pair (.bytes 16 (List.replicate 16 0)) (.int .i64 0))) (.pair (.int .i64 0) (.bytes 16 (List.replicate 16 0))))) (.pair (.int .i64 0) (.pair (.bytes 16 (List.replicate 16 0)) (.bytes 16 (List.replicate 16 0)))))) := ⟨(fun _ => by kernel_rfl), rfl, (fun _ => by simp [VOk])⟩
instance : Bld Try.prog 40 (.pair (.int .i64 0) (.pair (.pair (.int .i64 0) (.pair (.pair (.pair (.bytes 16 (List.replicate 16 0)) (.int .i64 0)) (.pair (.bytes 16 (List.replicate 16 0)) (.int .i64 0))) (.pair (.int .i64 0) (.bytes 16 (List.replicate 16 0))))) (.pair (.int .i64 0) (.pair (.bytes 16 (List.replicate 16 0)) (.bytes 16 (List.replicate 16 0)))))) #[(0, 1), (1, 52), (53, 1), (54, 16), (70, 16)] := Bld.struct (fun _ => by kernel_rfl) (fun _ => by kernel_rfl) (fun _ => by kernel_rfl) rfl rfl (fun _ => by simp [VOk])
instance : Ty Try.prog 41 true 86 := ⟨(fun _ => by kernel_rfl), (fun _ => by kernel_rfl)⟩
instance : Fld Try.prog 41 0 0 false 1 := Fld.mk' ((fieldsOf Try.prog 41).getD 0 default) (fun _ => by kernel_rfl) (by kernel_rfl) (by kernel_rfl) (fun _ => by kernel_rfl) (fun _ => by kernel_rfl) (by decide)
instance : Fld Try.prog 41 1 1 true 52 := Fld.mk' ((fieldsOf Try.prog 41).getD 1 default) (fun _ => by kernel_rfl) (by kernel_rfl) (by kernel_rfl) (fun _ => by kernel_rfl) (fun _ => by kernel_rfl) (by decide)
instance : Fld Try.prog 41 2 53 false 1 := Fld.mk' ((fieldsOf Try.prog 41).getD 2 default) (fun _ => by kernel_rfl) (by kernel_rfl) (by kernel_rfl) (fun _ => by kernel_rfl) (fun _ => by kernel_rfl) (by decide)
instance : Fld Try.prog 41 3 54 true 16 := Fld.mk' ((fieldsOf Try.prog 41).getD 3 default) (fun _ => by kernel_rfl) (by kernel_rfl) (by kernel_rfl) (fun _ => by kernel_rfl) (fun _ => by kernel_rfl) (by decide)
instance : Fld Try.prog 41 4 70 true 16 := Fld.mk' ((fieldsOf Try.prog 41).getD 4 default) (fun _ => by kernel_rfl) (by kernel_rfl) (by kernel_rfl) (fun _ => by kernel_rfl) (fun _ => by kernel_rfl) (by decide)
instance : Zer Try.prog 41 (.pair (.int .i64 0) (.pair (.pair (.int .i64 0) (.pair (.pair (.pair (.bytes 16 (List.replicate 16 0)) (.int .i64 0)) (.pair (.bytes 16 (List.replicate 16 0)) (.int .i64 0))) (.pair (.int .i64 0) (.bytes 16 (List.replicate 16 0))))) (.pair (.int .i64 0) (.pair (.bytes 16 (List.replicate 16 0)) (.bytes 16 (List.replicate 16 0)))))) := ⟨(fun _ => by kernel_rfl), rfl, (fun _ => by simp [VOk])⟩
instance : Bld Try.prog 41 (.pair (.int .i64 0) (.pair (.pair (.int .i64 0) (.pair (.pair (.pair (.bytes 16 (List.replicate 16 0)) (.int .i64 0)) (.pair (.bytes 16 (List.replicate 16 0)) (.int .i64 0))) (.pair (.int .i64 0) (.bytes 16 (List.replicate 16 0))))) (.pair (.int .i64 0) (.pair (.bytes 16 (List.replicate 16 0)) (.bytes 16 (List.replicate 16 0)))))) #[(0, 1), (1, 52), (53, 1), (54, 16), (70, 16)] := Bld.struct (fun _ => by kernel_rfl) (fun _ => by kernel_rfl) (fun _ => by kernel_rfl) rfl rfl (fun _ => by simp [VOk])
instance : Ty Try.prog 42 false 1 := ⟨(fun _ => by kernel_rfl), (fun _ => by kernel_rfl)⟩
instance : Zer Try.prog 42 (.nilf) := ⟨(fun _ => by kernel_rfl), rfl, (fun _ => by simp [VOk])⟩
instance : Ty Try.prog 43 false 1 := ⟨(fun _ => by kernel_rfl), (fun _ => by kernel_rfl)⟩
instance : Zer Try.prog 43 (.nilf) := ⟨(fun _ => by kernel_rfl), rfl, (fun _ => by simp [VOk])⟩
instance : Ty Try.prog 44 false 1 := ⟨(fun _ => by kernel_rfl), (fun _ => by kernel_rfl)⟩
instance : Zer Try.prog 44 (.nilf) := ⟨(fun _ => by kernel_rfl), rfl, (fun _ => by simp [VOk])⟩
instance : Ty Try.prog 45 false 1 := ⟨(fun _ => by kernel_rfl), (fun _ => by kernel_rfl)⟩
instance : Zer Try.prog 45 (.nilf) := ⟨(fun _ => by kernel_rfl), rfl, (fun _ => by simp [VOk])⟩
instance : Ty Try.prog 46 false 1 := ⟨(fun _ => by kernel_rfl), (fun _ => by kernel_rfl)⟩
instance : Zer Try.prog 46 (.nilf) := ⟨(fun _ => by kernel_rfl), rfl, (fun _ => by simp [VOk])⟩
instance : Ty Try.prog 47 false 1 := ⟨(fun _ => by kernel_rfl), (fun _ => by kernel_rfl)⟩
instance : Zer Try.prog 47 (.nilf) := ⟨(fun _ => by kernel_rfl), rfl, (fun _ => by simp [VOk])⟩
instance : Ty Try.prog 49 false 1 := ⟨(fun _ => by kernel_rfl), (fun _ => by kernel_rfl)⟩
instance : Zer Try.prog 49 (.nilf) := ⟨(fun _ => by kernel_rfl), rfl, (fun _ => by simp [VOk])⟩
instance : Ty Try.prog 50 false 1 := ⟨(fun _ => by kernel_rfl), (fun _ => by kernel_rfl)⟩
instance : Zer Try.prog 50 (.nilf) := ⟨(fun _ => by kernel_rfl), rfl, (fun _ => by simp [VOk])⟩
instance : Ty Try.prog 51 false 1 := ⟨(fun _ => by kernel_rfl), (fun _ => by kernel_rfl)⟩
instance : Zer Try.prog 51 (.nilf) := ⟨(fun _ => by kernel_rfl), rfl, (fun _ => by simp [VOk])⟩
instance : Ty Try.prog 52 false 1 := ⟨(fun _ => by kernel_rfl), (fun _ => by kernel_rfl)⟩
instance : Zer Try.prog 52 (.nilf) := ⟨(fun _ => by kernel_rfl), rfl, (fun _ => by simp [VOk])⟩
instance : Ty Try.prog 53 false 1 := ⟨(fun _ => by kernel_rfl), (fun _ => by kernel_rfl)⟩
instance : Zer Try.prog 53 (.nilf) := ⟨(fun _ => by kernel_rfl), rfl, (fun _ => by simp [VOk])⟩
instance : Ty Try.prog 54 false 1 := ⟨(fun _ => by kernel_rfl), (fun _ => by kernel_rfl)⟩
instance : Zer Try.prog 54 (.nilf) := ⟨(fun _ => by kernel_rfl), rfl, (fun _ => by simp [VOk])⟩
instance : Ty Try.prog 55 false 1 := ⟨(fun _ => by kernel_rfl), (fun _ => by kernel_rfl)⟩
instance : Slc Try.prog 55 64 4 := ⟨(fun _ => by kernel_rfl), (fun _ => by kernel_rfl)⟩
instance : Ela Try.prog 55 64 4 48 := ⟨⟨(Try.prog.info? 64).getD default, ((Try.prog.info? 64).getD default).zero.getD (.bool false), by kernel_rfl, by kernel_rfl, by kernel_rfl, by kernel_rfl, by kernel_rfl, by kernel_rfl⟩, by decide⟩
instance : Zer Try.prog 55 (.sl 0 none 0 0 0 0) := ⟨(fun _ => by kernel_rfl), rfl, (fun _ => by simp [VOk])⟩
instance : Ty Try.prog 56 false 1 := ⟨(fun _ => by kernel_rfl), (fun _ => by kernel_rfl)⟩
instance : Zer Try.prog 56 (.nilf) := ⟨(fun _ => by kernel_rfl), rfl, (fun _ => by simp [VOk])⟩
instance : Ty Try.prog 57 false 1 := ⟨(fun _ => by kernel_rfl), (fun _ => by kernel_rfl)⟩
instance : Und Try.prog 57 (.pointer 103) := ⟨by kernel_rfl⟩
instance : Zer Try.prog 57 (.nilp) := ⟨(fun _ => by kernel_rfl), rfl, (fun _ => by simp [VOk])⟩
instance : Ty Try.prog 58 false 1 := ⟨(fun _ => by kernel_rfl), (fun _ => by kernel_rfl)⟩
instance : Zer Try.prog 58 (.nilf) := ⟨(fun _ => by kernel_rfl), rfl, (fun _ => by simp [VOk])⟩
instance : Ty Try.prog 59 false 1 := ⟨(fun _ => by kernel_rfl), (fun _ => by kernel_rfl)⟩
instance : Und Try.prog 59 (.pointer 62) := ⟨by kernel_rfl⟩
instance : Zer Try.prog 59 (.nilp) := ⟨(fun _ => by kernel_rfl), rfl, (fun _ => by simp [VOk])⟩
instance : Ty Try.prog 60 false 1 := ⟨(fun _ => by kernel_rfl), (fun _ => by kernel_rfl)⟩
instance : Slc Try.prog 60 108 35 := ⟨(fun _ => by kernel_rfl), (fun _ => by kernel_rfl)⟩
instance : Ela Try.prog 60 108 35 56 := ⟨⟨(Try.prog.info? 108).getD default, ((Try.prog.info? 108).getD default).zero.getD (.bool false), by kernel_rfl, by kernel_rfl, by kernel_rfl, by kernel_rfl, by kernel_rfl, by kernel_rfl⟩, by decide⟩
instance : Zer Try.prog 60 (.sl 0 none 0 0 0 0) := ⟨(fun _ => by kernel_rfl), rfl, (fun _ => by simp [VOk])⟩
instance : Ty Try.prog 61 true 56 := ⟨(fun _ => by kernel_rfl), (fun _ => by kernel_rfl)⟩
instance : Fld Try.prog 61 0 0 false 1 := Fld.mk' ((fieldsOf Try.prog 61).getD 0 default) (fun _ => by kernel_rfl) (by kernel_rfl) (by kernel_rfl) (fun _ => by kernel_rfl) (fun _ => by kernel_rfl) (by decide)
instance : Fld Try.prog 61 1 1 false 1 := Fld.mk' ((fieldsOf Try.prog 61).getD 1 default) (fun _ => by kernel_rfl) (by kernel_rfl) (by kernel_rfl) (fun _ => by kernel_rfl) (fun _ => by kernel_rfl) (by decide)
instance : Fld Try.prog 61 2 2 false 1 := Fld.mk' ((fieldsOf Try.prog 61).getD 2 default) (fun _ => by kernel_rfl) (by kernel_rfl) (by kernel_rfl) (fun _ => by kernel_rfl) (fun _ => by kernel_rfl) (by decide)
instance : Fld Try.prog 61 3 3 true 52 := Fld.mk' ((fieldsOf Try.prog 61).getD 3 default) (fun _ => by kernel_rfl) (by kernel_rfl) (by kernel_rfl) (fun _ => by kernel_rfl) (fun _ => by kernel_rfl) (by decide)
instance : Fld Try.prog 61 4 55 false 1 := Fld.mk' ((fieldsOf Try.prog 61).getD 4 default) (fun _ => by kernel_rfl) (by kernel_rfl) (by kernel_rfl) (fun _ => by kernel_rfl) (fun _ => by kernel_rfl) (by decide)
instance : Zer Try.prog 61 (.pair (.sl 0 none 0 0 0 0) (.pair (.sl 0 none 0 0 0 0) (.pair (.sl 0 none 0 0 0 0) (.pair (.pair (.int .i64 0) (.pair (.pair (.pair (.bytes 16 (List.replicate 16 0)) (.int .i64 0)) (.pair (.bytes 16 (List.replicate 16 0)) (.int .i64 0))) (.pair (.int .i64 0) (.bytes 16 (List.replicate 16 0))))) (.bool false))))) := ⟨(fun _ => by kernel_rfl), rfl, (fun _ => by simp [VOk])⟩
instance : Bld Try.prog 61 (.pair (.sl 0 none 0 0 0 0) (.pair (.sl 0 none 0 0 0 0) (.pair (.sl 0 none 0 0 0 0) (.pair (.pair (.int .i64 0) (.pair (.pair (.pair (.bytes 16 (List.replicate 16 0)) (.int .i64 0)) (.pair (.bytes 16 (List.replicate 16 0)) (.int .i64 0))) (.pair (.int .i64 0) (.bytes 16 (List.replicate 16 0))))) (.bool false))))) #[(0, 1), (1, 1), (2, 1), (3, 52), (55, 1)] := Bld.struct (fun _ => by kernel_rfl) (fun _ => by kernel_rfl) (fun _ => by kernel_rfl) rfl rfl (fun _ => by simp [VOk])
instance : Ty Try.prog 62 true 56 := ⟨(fun _ => by kernel_rfl), (fun _ => by kernel_rfl)⟩
instance : Fld Try.prog 62 0 0 false 1 := Fld.mk' ((fieldsOf Try.prog 62).getD 0 default) (fun _ => by kernel_rfl) (by kernel_rfl) (by kernel_rfl) (fun _ => by kernel_rfl) (fun _ => by kernel_rfl) (by decide)
instance : Fld Try.prog 62 1 1 false 1 := Fld.mk' ((fieldsOf Try.prog 62).getD 1 default) (fun _ => by kernel_rfl) (by kernel_rfl) (by kernel_rfl) (fun _ => by kernel_rfl) (fun _ => by kernel_rfl) (by decide)
instance : Fld Try.prog 62 2 2 false 1 := Fld.mk' ((fieldsOf Try.prog 62).getD 2 default) (fun _ => by kernel_rfl) (by kernel_rfl) (by kernel_rfl) (fun _ => by kernel_rfl) (fun _ => by kernel_rfl) (by decide)
instance : Fld Try.prog 62 3 3 true 52 := Fld.mk' ((fieldsOf Try.prog 62).getD 3 default) (fun _ => by kernel_rfl) (by kernel_rfl) (by kernel_rfl) (fun _ => by kernel_rfl) (fun _ => by kernel_rfl) (by decide)
instance : Fld Try.prog 62 4 55 false 1 := Fld.mk' ((fieldsOf Try.prog 62).getD 4 default) (fun _ => by kernel_rfl) (by kernel_rfl) (by kernel_rfl) (fun _ => by kernel_rfl) (fun _ => by kernel_rfl) (by decide)
instance : Zer Try.prog 62 (.pair (.sl 0 none 0 0 0 0) (.pair (.sl 0 none 0 0 0 0) (.pair (.sl 0 none 0 0 0 0) (.pair (.pair (.int .i64 0) (.pair (.pair (.pair (.bytes 16 (List.replicate 16 0)) (.int .i64 0)) (.pair (.bytes 16 (List.replicate 16 0)) (.int .i64 0))) (.pair (.int .i64 0) (.bytes 16 (List.replicate 16 0))))) (.bool false))))) := ⟨(fun _ => by kernel_rfl), rfl, (fun _ => by simp [VOk])⟩
instance : Bld Try.prog 62 (.pair (.sl 0 none 0 0 0 0) (.pair (.sl 0 none 0 0 0 0) (.pair (.sl 0 none 0 0 0 0) (.pair (.pair (.int .i64 0) (.pair (.pair (.pair (.bytes 16 (List.replicate 16 0)) (.int .i64 0)) (.pair (.bytes 16 (List.replicate 16 0)) (.int .i64 0))) (.pair (.int .i64 0) (.bytes 16 (List.replicate 16 0))))) (.bool false))))) #[(0, 1), (1, 1), (2, 1), (3, 52), (55, 1)] := Bld.struct (fun _ => by kernel_rfl) (fun _ => by kernel_rfl) (fun _ => by kernel_rfl) rfl rfl (fun _ => by simp [VOk])
instance : Ty Try.prog 63 true 4 := ⟨(fun _ => by kernel_rfl), (fun _ => by kernel_rfl)⟩
instance : Fld Try.prog 63 0 0 false 1 := Fld.mk' ((fieldsOf Try.prog 63).getD 0 default) (fun _ => by kernel_rfl) (by kernel_rfl) (by kernel_rfl) (fun _ => by kernel_rfl) (fun _ => by kernel_rfl) (by decide)
instance : Fld Try.prog 63 1 1 false 1 := Fld.mk' ((fieldsOf Try.prog 63).getD 1 default) (fun _ => by kernel_rfl) (by kernel_rfl) (by kernel_rfl) (fun _ => by kernel_rfl) (fun _ => by kernel_rfl) (by decide)
instance : Fld Try.prog 63 2 2 false 1 := Fld.mk' ((fieldsOf Try.prog 63).getD 2 default) (fun _ => by kernel_rfl) (by kernel_rfl) (by kernel_rfl) (fun _ => by kernel_rfl) (fun _ => by kernel_rfl) (by decide)
instance : Fld Try.prog 63 3 3 false 1 := Fld.mk' ((fieldsOf Try.prog 63).getD 3 default) (fun _ => by kernel_rfl) (by kernel_rfl) (by kernel_rfl) (fun _ => by kernel_rfl) (fun _ => by kernel_rfl) (by decide)
instance : Zer Try.prog 63 (.pair (.int .i64 0) (.pair (.int .i64 0) (.pair (.sl 0 none 0 0 0 0) (.bool false)))) := ⟨(fun _ => by kernel_rfl), rfl, (fun _ => by simp [VOk])⟩
instance : Bld Try.prog 63 (.pair (.int .i64 0) (.pair (.int .i64 0) (.pair (.sl 0 none 0 0 0 0) (.bool false)))) #[(0, 1), (1, 1), (2, 1), (3, 1)] := Bld.struct (fun _ => by kernel_rfl) (fun _ => by kernel_rfl) (fun _ => by kernel_rfl) rfl rfl (fun _ => by simp [VOk])
instance : Ty Try.prog 64 true 4 := ⟨(fun _ => by kernel_rfl), (fun _ => by kernel_rfl)⟩
instance : Fld Try.prog 64 0 0 false 1 := Fld.mk' ((fieldsOf Try.prog 64).getD 0 default) (fun _ => by kernel_rfl) (by kernel_rfl) (by kernel_rfl) (fun _ => by kernel_rfl) (fun _ => by kernel_rfl) (by decide)
instance : Fld Try.prog 64 1 1 false 1 := Fld.mk' ((fieldsOf Try.prog 64).getD 1 default) (fun _ => by kernel_rfl) (by kernel_rfl) (by kernel_rfl) (fun _ => by kernel_rfl) (fun _ => by kernel_rfl) (by decide)
instance : Fld Try.prog 64 2 2 false 1 := Fld.mk' ((fieldsOf Try.prog 64).getD 2 default) (fun _ => by kernel_rfl) (by kernel_rfl) (by kernel_rfl) (fun _ => by kernel_rfl) (fun _ => by kernel_rfl) (by decide)
instance : Fld Try.prog 64 3 3 false 1 := Fld.mk' ((fieldsOf Try.prog 64).getD 3 default) (fun _ => by kernel_rfl) (by kernel_rfl) (by kernel_rfl) (fun _ => by kernel_rfl) (fun _ => by kernel_rfl) (by decide)
instance : Zer Try.prog 64 (.pair (.int .i64 0) (.pair (.int .i64 0) (.pair (.sl 0 none 0 0 0 0) (.bool false)))) := ⟨(fun _ => by kernel_rfl), rfl, (fun _ => by simp [VOk])⟩
instance : Bld Try.prog 64 (.pair (.int .i64 0) (.pair (.int .i64 0) (.pair (.sl 0 none 0 0 0 0) (.bool false)))) #[(0, 1), (1, 1), (2, 1), (3, 1)] := Bld.struct (fun _ => by kernel_rfl) (fun _ => by kernel_rfl) (fun _ => by kernel_rfl) rfl rfl (fun _ => by simp [VOk])
instance : Ty Try.prog 65 false 1 := ⟨(fun _ => by kernel_rfl), (fun _ => by kernel_rfl)⟩
instance : Zer Try.prog 65 (.nilf) := ⟨(fun _ => by kernel_rfl), rfl, (fun _ => by simp [VOk])⟩
instance : Ty Try.prog 66 false 1 := ⟨(fun _ => by kernel_rfl), (fun _ => by kernel_rfl)⟩
instance : Zer Try.prog 66 (.nilf) := ⟨(fun _ => by kernel_rfl), rfl, (fun _ => by simp [VOk])⟩
instance : Ty Try.prog 68 false 1 := ⟨(fun _ => by kernel_rfl), (fun _ => by kernel_rfl)⟩
instance : Zer Try.prog 68 (.nilf) := ⟨(fun _ => by kernel_rfl), rfl, (fun _ => by simp [VOk])⟩
instance : Ty Try.prog 69 false 1 := ⟨(fun _ => by kernel_rfl), (fun _ => by kernel_rfl)⟩
instance : Zer Try.prog 69 (.nilf) := ⟨(fun _ => by kernel_rfl), rfl, (fun _ => by simp [VOk])⟩
instance : Ty Try.prog 70 false 1 := ⟨(fun _ => by kernel_rfl), (fun _ => by kernel_rfl)⟩
instance : Und Try.prog 70 (.int .i64) := ⟨by kernel_rfl⟩
instance : Zer Try.prog 70 (.int .i64 0) := ⟨(fun _ => by kernel_rfl), rfl, (fun _ => by simp [VOk])⟩
instance : Ty Try.prog 71 false 1 := ⟨(fun _ => by kernel_rfl), (fun _ => by kernel_rfl)⟩
instance : Zer Try.prog 71 (.nilf) := ⟨(fun _ => by kernel_rfl), rfl, (fun _ => by simp [VOk])⟩
instance : Ty Try.prog 72 false 1 := ⟨(fun _ => by kernel_rfl), (fun _ => by kernel_rfl)⟩
instance : Zer Try.prog 72 (.nilf) := ⟨(fun _ => by kernel_rfl), rfl, (fun _ => by simp [VOk])⟩
instance : Ty Try.prog 74 false 1 := ⟨(fun _ => by kernel_rfl), (fun _ => by kernel_rfl)⟩
instance : Zer Try.prog 74 (.nilf) := ⟨(fun _ => by kernel_rfl), rfl, (fun _ => by simp [VOk])⟩
instance : Ty Try.prog 75 false 1 := ⟨(fun _ => by kernel_rfl), (fun _ => by kernel_rfl)⟩
instance : Zer Try.prog 75 (.nilf) := ⟨(fun _ => by kernel_rfl), rfl, (fun _ => by simp [VOk])⟩
instance : Ty Try.prog 76 false 1 := ⟨(fun _ => by kernel_rfl), (fun _ => by kernel_rfl)⟩
instance : Zer Try.prog 76 (.nilf) := ⟨(fun _ => by kernel_rfl), rfl, (fun _ => by simp [VOk])⟩
instance : Ty Try.prog 77 false 1 := ⟨(fun _ => by kernel_rfl), (fun _ => by kernel_rfl)⟩
instance : Zer Try.prog 77 (.nilf) := ⟨(fun _ => by kernel_rfl), rfl, (fun _ => by simp [VOk])⟩
instance : Ty Try.prog 78 false 1 := ⟨(fun _ => by kernel_rfl), (fun _ => by kernel_rfl)⟩
instance : Zer Try.prog 78 (.nilf) := ⟨(fun _ => by kernel_rfl), rfl, (fun _ => by simp [VOk])⟩
instance : Ty Try.prog 79 false 1 := ⟨(fun _ => by kernel_rfl), (fun _ => by kernel_rfl)⟩
instance : Zer Try.prog 79 (.nilf) := ⟨(fun _ => by kernel_rfl), rfl, (fun _ => by simp [VOk])⟩
instance : Ty Try.prog 80 false 1 := ⟨(fun _ => by kernel_rfl), (fun _ => by kernel_rfl)⟩
instance : Zer Try.prog 80 (.nilf) := ⟨(fun _ => by kernel_rfl), rfl, (fun _ => by simp [VOk])⟩
instance : Ty Try.prog 81 false 1 := ⟨(fun _ => by kernel_rfl), (fun _ => by kernel_rfl)⟩
instance : Zer Try.prog 81 (.nilf) := ⟨(fun _ => by kernel_rfl), rfl, (fun _ => by simp [VOk])⟩
instance : Ty Try.prog 82 false 1 := ⟨(fun _ => by kernel_rfl), (fun _ => by kernel_rfl)⟩
instance : Zer Try.prog 82 (.nilf) := ⟨(fun _ => by kernel_rfl), rfl, (fun _ => by simp [VOk])⟩
instance : Ty Try.prog 83 false 1 := ⟨(fun _ => by kernel_rfl), (fun _ => by kernel_rfl)⟩
instance : Zer Try.prog 83 (.nilf) := ⟨(fun _ => by kernel_rfl), rfl, (fun _ => by simp [VOk])⟩
instance : Ty Try.prog 84 false 1 := ⟨(fun _ => by kernel_rfl), (fun _ => by kernel_rfl)⟩
instance : Slc Try.prog 84 35 34 := ⟨(fun _ => by kernel_rfl), (fun _ => by kernel_rfl)⟩
instance : Ela Try.prog 84 35 34 48 := ⟨⟨(Try.prog.info? 35).getD default, ((Try.prog.info? 35).getD default).zero.getD (.bool false), by kernel_rfl, by kernel_rfl, by kernel_rfl, by kernel_rfl, by kernel_rfl, by kernel_rfl⟩, by decide⟩
instance : Zer Try.prog 84 (.sl 0 none 0 0 0 0) := ⟨(fun _ => by kernel_rfl), rfl, (fun _ => by simp [VOk])⟩
instance : Ty Try.prog 85 false 1 := ⟨(fun _ => by kernel_rfl), (fun _ => by kernel_rfl)⟩
instance : Zer Try.prog 85 (.nilf) := ⟨(fun _ => by kernel_rfl), rfl, (fun _ => by simp [VOk])⟩
instance : Ty Try.prog 86 false 1 := ⟨(fun _ => by kernel_rfl), (fun _ => by kernel_rfl)⟩
instance : Zer Try.prog 86 (.nilf) := ⟨(fun _ => by kernel_rfl), rfl, (fun _ => by simp [VOk])⟩
instance : Ty Try.prog 87 false 1 := ⟨(fun _ => by kernel_rfl), (fun _ => by kernel_rfl)⟩
instance : Zer Try.prog 87 (.nilf) := ⟨(fun _ => by kernel_rfl), rfl, (fun _ => by simp [VOk])⟩
instance : Ty Try.prog 88 false 1 := ⟨(fun _ => by kernel_rfl), (fun _ => by kernel_rfl)⟩
instance : Zer Try.prog 88 (.nilf) := ⟨(fun _ => by kernel_rfl), rfl, (fun _ => by simp [VOk])⟩
instance : Ty Try.prog 89 false 1 := ⟨(fun _ => by kernel_rfl), (fun _ => by kernel_rfl)⟩
instance : Zer Try.prog 89 (.nilf) := ⟨(fun _ => by kernel_rfl), rfl, (fun _ => by simp [VOk])⟩
instance : Ty Try.prog 90 false 1 := ⟨(fun _ => by kernel_rfl), (fun _ => by kernel_rfl)⟩
instance : Und Try.prog 90 (.map 35 37) := ⟨by kernel_rfl⟩
instance : Zer Try.prog 90 (.map 0 none) := ⟨(fun _ => by kernel_rfl), rfl, (fun _ => by simp [VOk])⟩
instance : Ty Try.prog 91 false 1 := ⟨(fun _ => by kernel_rfl), (fun _ => by kernel_rfl)⟩
instance : Und Try.prog 91 (.map 35 37) := ⟨by kernel_rfl⟩
instance : Zer Try.prog 91 (.map 0 none) := ⟨(fun _ => by kernel_rfl), rfl, (fun _ => by simp [VOk])⟩
instance : Ty Try.prog 92 true 3 := ⟨(fun _ => by kernel_rfl), (fun _ => by kernel_rfl)⟩
instance : Fld Try.prog 92 0 0 false 1 := Fld.mk' ((fieldsOf Try.prog 92).getD 0 default) (fun _ => by kernel_rfl) (by kernel_rfl) (by kernel_rfl) (fun _ => by kernel_rfl) (fun _ => by kernel_rfl) (by decide)
instance : Fld Try.prog 92 1 1 false 1 := Fld.mk' ((fieldsOf Try.prog 92).getD 1 default) (fun _ => by kernel_rfl) (by kernel_rfl) (by kernel_rfl) (fun _ => by kernel_rfl) (fun _ => by kernel_rfl) (by decide)
instance : Fld Try.prog 92 2 2 false 1 := Fld.mk' ((fieldsOf Try.prog 92).getD 2 default) (fun _ => by kernel_rfl) (by kernel_rfl) (by kernel_rfl) (fun _ => by kernel_rfl) (fun _ => by kernel_rfl) (by decide)
instance : Zer Try.prog 92 (.pair (.map 0 none) (.pair (.map 0 none) (.int .i64 0))) := ⟨(fun _ => by kernel_rfl), rfl, (fun _ => by simp [VOk])⟩
instance : Bld Try.prog 92 (.pair (.map 0 none) (.pair (.map 0 none) (.int .i64 0))) #[(0, 1), (1, 1), (2, 1)] := Bld.struct (fun _ => by kernel_rfl) (fun _ => by kernel_rfl) (fun _ => by kernel_rfl) rfl rfl (fun _ => by simp [VOk])
instance : Ty Try.prog 93 true 3 := ⟨(fun _ => by kernel_rfl), (fun _ => by kernel_rfl)⟩
instance : Fld Try.prog 93 0 0 false 1 := Fld.mk' ((fieldsOf Try.prog 93).getD 0 default) (fun _ => by kernel_rfl) (by kernel_rfl) (by kernel_rfl) (fun _ => by kernel_rfl) (fun _ => by kernel_rfl) (by decide)
instance : Fld Try.prog 93 1 1 false 1 := Fld.mk' ((fieldsOf Try.prog 93).getD 1 default) (fun _ => by kernel_rfl) (by kernel_rfl) (by kernel_rfl) (fun _ => by kernel_rfl) (fun _ => by kernel_rfl) (by decide)
instance : Fld Try.prog 93 2 2 false 1 := Fld.mk' ((fieldsOf Try.prog 93).getD 2 default) (fun _ => by kernel_rfl) (by kernel_rfl) (by kernel_rfl) (fun _ => by kernel_rfl) (fun _ => by kernel_rfl) (by decide)
instance : Zer Try.prog 93 (.pair (.map 0 none) (.pair (.map 0 none) (.int .i64 0))) := ⟨(fun _ => by kernel_rfl), rfl, (fun _ => by simp [VOk])⟩
instance : Bld Try.prog 93 (.pair (.map 0 none) (.pair (.map 0 none) (.int .i64 0))) #[(0, 1), (1, 1), (2, 1)] := Bld.struct (fun _ => by kernel_rfl) (fun _ => by kernel_rfl) (fun _ => by kernel_rfl) rfl rfl (fun _ => by simp [VOk])
instance : Ty Try.prog 94 false 1 := ⟨(fun _ => by kernel_rfl), (fun _ => by kernel_rfl)⟩
instance : Zer Try.prog 94 (.nilf) := ⟨(fun _ => by kernel_rfl), rfl, (fun _ => by simp [VOk])⟩
instance : Ty Try.prog 95 false 1 := ⟨(fun _ => by kernel_rfl), (fun _ => by kernel_rfl)⟩
instance : Zer Try.prog 95 (.nilf) := ⟨(fun _ => by kernel_rfl), rfl, (fun _ => by simp [VOk])⟩
instance : Ty Try.prog 96 false 1 := ⟨(fun _ => by kernel_rfl), (fun _ => by kernel_rfl)⟩
instance : Slc Try.prog 96 91 1 := ⟨(fun _ => by kernel_rfl), (fun _ => by kernel_rfl)⟩
instance : Ela Try.prog 96 91 1 8 := ⟨⟨(Try.prog.info? 91).getD default, ((Try.prog.info? 91).getD default).zero.getD (.bool false), by kernel_rfl, by kernel_rfl, by kernel_rfl, by kernel_rfl, by kernel_rfl, by kernel_rfl⟩, by decide⟩
instance : Zer Try.prog 96 (.sl 0 none 0 0 0 0) := ⟨(fun _ => by kernel_rfl), rfl, (fun _ => by simp [VOk])⟩
instance : Ty Try.prog 97 false 1 := ⟨(fun _ => by kernel_rfl), (fun _ => by kernel_rfl)⟩
instance : Und Try.prog 97 (.map 35 37) := ⟨by kernel_rfl⟩
instance : Zer Try.prog 97 (.map 0 none) := ⟨(fun _ => by kernel_rfl), rfl, (fun _ => by simp [VOk])⟩
instance : Ty Try.prog 98 false 1 := ⟨(fun _ => by kernel_rfl), (fun _ => by kernel_rfl)⟩
instance : Zer Try.prog 98 (.nilf) := ⟨(fun _ => by kernel_rfl), rfl, (fun _ => by simp [VOk])⟩
instance : Ty Try.prog 99 false 1 := ⟨(fun _ => by kernel_rfl), (fun _ => by kernel_rfl)⟩
instance : Zer Try.prog 99 (.nilf) := ⟨(fun _ => by kernel_rfl), rfl, (fun _ => by simp [VOk])⟩
instance : Ty Try.prog 100 false 1 := ⟨(fun _ => by kernel_rfl), (fun _ => by kernel_rfl)⟩
instance : Und Try.prog 100 (.map 35 3) := ⟨by kernel_rfl⟩
instance : Zer Try.prog 100 (.map 0 none) := ⟨(fun _ => by kernel_rfl), rfl, (fun _ => by simp [VOk])⟩
instance : Ty Try.prog 101 false 1 := ⟨(fun _ => by kernel_rfl), (fun _ => by kernel_rfl)⟩
instance : Und Try.prog 101 (.pointer 39) := ⟨by kernel_rfl⟩
instance : Zer Try.prog 101 (.nilp) := ⟨(fun _ => by kernel_rfl), rfl, (fun _ => by simp [VOk])⟩
instance : Ty Try.prog 102 true 4 := ⟨(fun _ => by kernel_rfl), (fun _ => by kernel_rfl)⟩
instance : Fld Try.prog 102 0 0 false 1 := Fld.mk' ((fieldsOf Try.prog 102).getD 0 default) (fun _ => by kernel_rfl) (by kernel_rfl) (by kernel_rfl) (fun _ => by kernel_rfl) (fun _ => by kernel_rfl) (by decide)
instance : Fld Try.prog 102 1 1 false 1 := Fld.mk' ((fieldsOf Try.prog 102).getD 1 default) (fun _ => by kernel_rfl) (by kernel_rfl) (by kernel_rfl) (fun _ => by kernel_rfl) (fun _ => by kernel_rfl) (by decide)
instance : Fld Try.prog 102 2 2 false 1 := Fld.mk' ((fieldsOf Try.prog 102).getD 2 default) (fun _ => by kernel_rfl) (by kernel_rfl) (by kernel_rfl) (fun _ => by kernel_rfl) (fun _ => by kernel_rfl) (by decide)
instance : Fld Try.prog 102 3 3 false 1 := Fld.mk' ((fieldsOf Try.prog 102).getD 3 default) (fun _ => by kernel_rfl) (by kernel_rfl) (by kernel_rfl) (fun _ => by kernel_rfl) (fun _ => by kernel_rfl) (by decide)
instance : Zer Try.prog 102 (.pair (.map 0 none) (.pair (.map 0 none) (.pair (.map 0 none) (.nilp)))) := ⟨(fun _ => by kernel_rfl), rfl, (fun _ => by simp [VOk])⟩
instance : Bld Try.prog 102 (.pair (.map 0 none) (.pair (.map 0 none) (.pair (.map 0 none) (.nilp)))) #[(0, 1), (1, 1), (2, 1), (3, 1)] := Bld.struct (fun _ => by kernel_rfl) (fun _ => by kernel_rfl) (fun _ => by kernel_rfl) rfl rfl (fun _ => by simp [VOk])
instance : Ty Try.prog 103 true 4 := ⟨(fun _ => by kernel_rfl), (fun _ => by kernel_rfl)⟩
instance : Fld Try.prog 103 0 0 false 1 := Fld.mk' ((fieldsOf Try.prog 103).getD 0 default) (fun _ => by kernel_rfl) (by kernel_rfl) (by kernel_rfl) (fun _ => by kernel_rfl) (fun _ => by kernel_rfl) (by decide)
instance : Fld Try.prog 103 1 1 false 1 := Fld.mk' ((fieldsOf Try.prog 103).getD 1 default) (fun _ => by kernel_rfl) (by kernel_rfl) (by kernel_rfl) (fun _ => by kernel_rfl) (fun _ => by kernel_rfl) (by decide)
instance : Fld Try.prog 103 2 2 false 1 := Fld.mk' ((fieldsOf Try.prog 103).getD 2 default) (fun _ => by kernel_rfl) (by kernel_rfl) (by kernel_rfl) (fun _ => by kernel_rfl) (fun _ => by kernel_rfl) (by decide)
instance : Fld Try.prog 103 3 3 false 1 := Fld.mk' ((fieldsOf Try.prog 103).getD 3 default) (fun _ => by kernel_rfl) (by kernel_rfl) (by kernel_rfl) (fun _ => by kernel_rfl) (fun _ => by kernel_rfl) (by decide)
instance : Zer Try.prog 103 (.pair (.map 0 none) (.pair (.map 0 none) (.pair (.map 0 none) (.nilp)))) := ⟨(fun _ => by kernel_rfl), rfl, (fun _ => by simp [VOk])⟩
instance : Bld Try.prog 103 (.pair (.map 0 none) (.pair (.map 0 none) (.pair (.map 0 none) (.nilp)))) #[(0, 1), (1, 1), (2, 1), (3, 1)] := Bld.struct (fun _ => by kernel_rfl) (fun _ => by kernel_rfl) (fun _ => by kernel_rfl) rfl rfl (fun _ => by simp [VOk])
instance : Ty Try.prog 104 false 1 := ⟨(fun _ => by kernel_rfl), (fun _ => by kernel_rfl)⟩
instance : Slc Try.prog 104 39 52 := ⟨(fun _ => by kernel_rfl), (fun _ => by kernel_rfl)⟩
instance : Ela Try.prog 104 39 52 80 := ⟨⟨(Try.prog.info? 39).getD default, ((Try.prog.info? 39).getD default).zero.getD (.bool false), by kernel_rfl, by kernel_rfl, by kernel_rfl, by kernel_rfl, by kernel_rfl, by kernel_rfl⟩, by decide⟩
instance : Zer Try.prog 104 (.sl 0 none 0 0 0 0) := ⟨(fun _ => by kernel_rfl), rfl, (fun _ => by simp [VOk])⟩
instance : Ty Try.prog 105 false 1 := ⟨(fun _ => by kernel_rfl), (fun _ => by kernel_rfl)⟩
instance : Zer Try.prog 105 (.nilf) := ⟨(fun _ => by kernel_rfl), rfl, (fun _ => by simp [VOk])⟩
instance : Ty Try.prog 106 false 1 := ⟨(fun _ => by kernel_rfl), (fun _ => by kernel_rfl)⟩
instance : Zer Try.prog 106 (.nilf) := ⟨(fun _ => by kernel_rfl), rfl, (fun _ => by simp [VOk])⟩
instance : Ty Try.prog 107 true 35 := ⟨(fun _ => by kernel_rfl), (fun _ => by kernel_rfl)⟩
instance : Fld Try.prog 107 0 0 true 34 := Fld.mk' ((fieldsOf Try.prog 107).getD 0 default) (fun _ => by kernel_rfl) (by kernel_rfl) (by kernel_rfl) (fun _ => by kernel_rfl) (fun _ => by kernel_rfl) (by decide)
instance : Fld Try.prog 107 1 34 false 1 := Fld.mk' ((fieldsOf Try.prog 107).getD 1 default) (fun _ => by kernel_rfl) (by kernel_rfl) (by kernel_rfl) (fun _ => by kernel_rfl) (fun _ => by kernel_rfl) (by decide)
instance : Zer Try.prog 107 (.pair (.pair (.pair (.bytes 16 (List.replicate 16 0)) (.int .i64 0)) (.pair (.bytes 16 (List.replicate 16 0)) (.int .i64 0))) (.int .i64 0)) := ⟨(fun _ => by kernel_rfl), rfl, (fun _ => by simp [VOk])⟩
instance : Bld Try.prog 107 (.pair (.pair (.pair (.bytes 16 (List.replicate 16 0)) (.int .i64 0)) (.pair (.bytes 16 (List.replicate 16 0)) (.int .i64 0))) (.int .i64 0)) #[(0, 34), (34, 1)] := Bld.struct (fun _ => by kernel_rfl) (fun _ => by kernel_rfl) (fun _ => by kernel_rfl) rfl rfl (fun _ => by simp [VOk])
instance : Ty Try.prog 108 true 35 := ⟨(fun _ => by kernel_rfl), (fun _ => by kernel_rfl)⟩
instance : Fld Try.prog 108 0 0 true 34 := Fld.mk' ((fieldsOf Try.prog 108).getD 0 default) (fun _ => by kernel_rfl) (by kernel_rfl) (by kernel_rfl) (fun _ => by kernel_rfl) (fun _ => by kernel_rfl) (by decide)
instance : Fld Try.prog 108 1 34 false 1 := Fld.mk' ((fieldsOf Try.prog 108).getD 1 default) (fun _ => by kernel_rfl) (by kernel_rfl) (by kernel_rfl) (fun _ => by kernel_rfl) (fun _ => by kernel_rfl) (by decide)
instance : Zer Try.prog 108 (.pair (.pair (.pair (.bytes 16 (List.replicate 16 0)) (.int .i64 0)) (.pair (.bytes 16 (List.replicate 16 0)) (.int .i64 0))) (.int .i64 0)) := ⟨(fun _ => by kernel_rfl), rfl, (fun _ => by simp [VOk])⟩
instance : Bld Try.prog 108 (.pair (.pair (.pair (.bytes 16 (List.replicate 16 0)) (.int .i64 0)) (.pair (.bytes 16 (List.replicate 16 0)) (.int .i64 0))) (.int .i64 0)) #[(0, 34), (34, 1)] := Bld.struct (fun _ => by kernel_rfl) (fun _ => by kernel_rfl) (fun _ => by kernel_rfl) rfl rfl (fun _ => by simp [VOk])
instance : Ty Try.prog 109 false 1 := ⟨(fun _ => by kernel_rfl), (fun _ => by kernel_rfl)⟩
instance : Zer Try.prog 109 (.nilf) := ⟨(fun _ => by kernel_rfl), rfl, (fun _ => by simp [VOk])⟩
instance : Ty Try.prog 110 false 1 := ⟨(fun _ => by kernel_rfl), (fun _ => by kernel_rfl)⟩
instance : Zer Try.prog 110 (.nilf) := ⟨(fun _ => by kernel_rfl), rfl, (fun _ => by simp [VOk])⟩
instance : Ty Try.prog 111 false 1 := ⟨(fun _ => by kernel_rfl), (fun _ => by kernel_rfl)⟩
instance : Slc Try.prog 111 5 1 := ⟨(fun _ => by kernel_rfl), (fun _ => by kernel_rfl)⟩
instance : Ela Try.prog 111 5 1 1 := ⟨⟨(Try.prog.info? 5).getD default, ((Try.prog.info? 5).getD default).zero.getD (.bool false), by kernel_rfl, by kernel_rfl, by kernel_rfl, by kernel_rfl, by kernel_rfl, by kernel_rfl⟩, by decide⟩
instance : Zer Try.prog 111 (.sl 0 none 0 0 0 0) := ⟨(fun _ => by kernel_rfl), rfl, (fun _ => by simp [VOk])⟩
instance : Ty Try.prog 112 false 1 := ⟨(fun _ => by kernel_rfl), (fun _ => by kernel_rfl)⟩
instance : Zer Try.prog 112 (.nilf) := ⟨(fun _ => by kernel_rfl), rfl, (fun _ => by simp [VOk])⟩
instance : Ty Try.prog 113 false 1 := ⟨(fun _ => by kernel_rfl), (fun _ => by kernel_rfl)⟩
instance : Zer Try.prog 113 (.nilf) := ⟨(fun _ => by kernel_rfl), rfl, (fun _ => by simp [VOk])⟩
instance : Ty Try.prog 114 false 1 := ⟨(fun _ => by kernel_rfl), (fun _ => by kernel_rfl)⟩
instance : Zer Try.prog 114 (.nilf) := ⟨(fun _ => by kernel_rfl), rfl, (fun _ => by simp [VOk])⟩
instance : Ty Try.prog 115 false 1 := ⟨(fun _ => by kernel_rfl), (fun _ => by kernel_rfl)⟩
instance : Zer Try.prog 115 (.nilf) := ⟨(fun _ => by kernel_rfl), rfl, (fun _ => by simp [VOk])⟩
instance : Ty Try.prog 116 false 1 := ⟨(fun _ => by kernel_rfl), (fun _ => by kernel_rfl)⟩
instance : Zer Try.prog 116 (.nilf) := ⟨(fun _ => by kernel_rfl), rfl, (fun _ => by simp [VOk])⟩
instance : Ty Try.prog 117 false 1 := ⟨(fun _ => by kernel_rfl), (fun _ => by kernel_rfl)⟩
instance : Zer Try.prog 117 (.nilf) := ⟨(fun _ => by kernel_rfl), rfl, (fun _ => by simp [VOk])⟩
instance : Ty Try.prog 118 false 1 := ⟨(fun _ => by kernel_rfl), (fun _ => by kernel_rfl)⟩
instance : Zer Try.prog 118 (.nilf) := ⟨(fun _ => by kernel_rfl), rfl, (fun _ => by simp [VOk])⟩
instance : Ty Try.prog 119 false 1 := ⟨(fun _ => by kernel_rfl), (fun _ => by kernel_rfl)⟩
instance : Zer Try.prog 119 (.nilf) := ⟨(fun _ => by kernel_rfl), rfl, (fun _ => by simp [VOk])⟩
instance : Ty Try.prog 120 false 1 := ⟨(fun _ => by kernel_rfl), (fun _ => by kernel_rfl)⟩
instance : Zer Try.prog 120 (.nilf) := ⟨(fun _ => by kernel_rfl), rfl, (fun _ => by simp [VOk])⟩
instance : Ty Try.prog 121 false 1 := ⟨(fun _ => by kernel_rfl), (fun _ => by kernel_rfl)⟩
instance : Zer Try.prog 121 (.nilf) := ⟨(fun _ => by kernel_rfl), rfl, (fun _ => by simp [VOk])⟩
instance : Ty Try.prog 122 false 1 := ⟨(fun _ => by kernel_rfl), (fun _ => by kernel_rfl)⟩
instance : Und Try.prog 122 (.int .u16) := ⟨by kernel_rfl⟩
instance : Zer Try.prog 122 (.int .u16 0) := ⟨(fun _ => by kernel_rfl), rfl, (fun _ => by simp [VOk])⟩
instance : Ty Try.prog 123 false 1 := ⟨(fun _ => by kernel_rfl), (fun _ => by kernel_rfl)⟩
instance : Slc Try.prog 123 3 1 := ⟨(fun _ => by kernel_rfl), (fun _ => by kernel_rfl)⟩
instance : Ela Try.prog 123 3 1 8 := ⟨⟨(Try.prog.info? 3).getD default, ((Try.prog.info? 3).getD default).zero.getD (.bool false), by kernel_rfl, by kernel_rfl, by kernel_rfl, by kernel_rfl, by kernel_rfl, by kernel_rfl⟩, by decide⟩
instance : Zer Try.prog 123 (.sl 0 none 0 0 0 0) := ⟨(fun _ => by kernel_rfl), rfl, (fun _ => by simp [VOk])⟩
instance : Ty Try.prog 124 false 1 := ⟨(fun _ => by kernel_rfl), (fun _ => by kernel_rfl)⟩
instance : Zer Try.prog 124 (.nilf) := ⟨(fun _ => by kernel_rfl), rfl, (fun _ => by simp [VOk])⟩
instance : Ty Try.prog 125 false 1 := ⟨(fun _ => by kernel_rfl), (fun _ => by kernel_rfl)⟩
instance : Zer Try.prog 125 (.nilf) := ⟨(fun _ => by kernel_rfl), rfl, (fun _ => by simp [VOk])⟩
instance : Ty Try.prog 126 false 1 := ⟨(fun _ => by kernel_rfl), (fun _ => by kernel_rfl)⟩
instance : Zer Try.prog 126 (.nilf) := ⟨(fun _ => by kernel_rfl), rfl, (fun _ => by simp [VOk])⟩
instance : Ty Try.prog 127 false 1 := ⟨(fun _ => by kernel_rfl), (fun _ => by kernel_rfl)⟩
instance : Zer Try.prog 127 (.nilf) := ⟨(fun _ => by kernel_rfl), rfl, (fun _ => by simp [VOk])⟩
instance : Ty Try.prog 128 false 1 := ⟨(fun _ => by kernel_rfl), (fun _ => by kernel_rfl)⟩
instance : Zer Try.prog 128 (.nilf) := ⟨(fun _ => by kernel_rfl), rfl, (fun _ => by simp [VOk])⟩
instance : Ty Try.prog 129 false 1 := ⟨(fun _ => by kernel_rfl), (fun _ => by kernel_rfl)⟩
instance : Zer Try.prog 129 (.nilf) := ⟨(fun _ => by kernel_rfl), rfl, (fun _ => by simp [VOk])⟩
instance : Ty Try.prog 130 false 1 := ⟨(fun _ => by kernel_rfl), (fun _ => by kernel_rfl)⟩
instance : Und Try.prog 130 (.int .u64) := ⟨by kernel_rfl⟩
instance : Zer Try.prog 130 (.int .u64 0) := ⟨(fun _ => by kernel_rfl), rfl, (fun _ => by simp [VOk])⟩
instance : Ty Try.prog 131 false 1 := ⟨(fun _ => by kernel_rfl), (fun _ => by kernel_rfl)⟩
instance : Zer Try.prog 131 (.nilf) := ⟨(fun _ => by kernel_rfl), rfl, (fun _ => by simp [VOk])⟩
instance : Ty Try.prog 132 false 1 := ⟨(fun _ => by kernel_rfl), (fun _ => by kernel_rfl)⟩
instance : Zer Try.prog 132 (.nilf) := ⟨(fun _ => by kernel_rfl), rfl, (fun _ => by simp [VOk])⟩
instance : Ty Try.prog 133 false 1 := ⟨(fun _ => by kernel_rfl), (fun _ => by kernel_rfl)⟩
instance : Zer Try.prog 133 (.nilf) := ⟨(fun _ => by kernel_rfl), rfl, (fun _ => by simp [VOk])⟩
instance : Ty Try.prog 134 false 1 := ⟨(fun _ => by kernel_rfl), (fun _ => by kernel_rfl)⟩
instance : Zer Try.prog 134 (.nilf) := ⟨(fun _ => by kernel_rfl), rfl, (fun _ => by simp [VOk])⟩
instance : Ty Try.prog 135 false 1 := ⟨(fun _ => by kernel_rfl), (fun _ => by kernel_rfl)⟩
instance : Zer Try.prog 135 (.nilf) := ⟨(fun _ => by kernel_rfl), rfl, (fun _ => by simp [VOk])⟩
instance : Ty Try.prog 136 false 1 := ⟨(fun _ => by kernel_rfl), (fun _ => by kernel_rfl)⟩
instance : Und Try.prog 136 (.int .i64) := ⟨by kernel_rfl⟩
instance : Zer Try.prog 136 (.int .i64 0) := ⟨(fun _ => by kernel_rfl), rfl, (fun _ => by simp [VOk])⟩
instance : Ty Try.prog 138 false 1 := ⟨(fun _ => by kernel_rfl), (fun _ => by kernel_rfl)⟩
instance : Zer Try.prog 138 (.nilf) := ⟨(fun _ => by kernel_rfl), rfl, (fun _ => by simp [VOk])⟩
instance : Ty Try.prog 139 false 1 := ⟨(fun _ => by kernel_rfl), (fun _ => by kernel_rfl)⟩
instance : Zer Try.prog 139 (.nilf) := ⟨(fun _ => by kernel_rfl), rfl, (fun _ => by simp [VOk])⟩
instance : Ty Try.prog 140 false 1 := ⟨(fun _ => by kernel_rfl), (fun _ => by kernel_rfl)⟩
instance : Zer Try.prog 140 (.nilf) := ⟨(fun _ => by kernel_rfl), rfl, (fun _ => by simp [VOk])⟩
instance : Ty Try.prog 141 false 1 := ⟨(fun _ => by kernel_rfl), (fun _ => by kernel_rfl)⟩
instance : Zer Try.prog 141 (.nilf) := ⟨(fun _ => by kernel_rfl), rfl, (fun _ => by simp [VOk])⟩
instance : Ty Try.prog 142 false 1 := ⟨(fun _ => by kernel_rfl), (fun _ => by kernel_rfl)⟩
instance : Zer Try.prog 142 (.nilf) := ⟨(fun _ => by kernel_rfl), rfl, (fun _ => by simp [VOk])⟩
instance : Ty Try.prog 143 false 1 := ⟨(fun _ => by kernel_rfl), (fun _ => by kernel_rfl)⟩
instance : Und Try.prog 143 (.int .u32) := ⟨by kernel_rfl⟩
instance : Zer Try.prog 143 (.int .u32 0) := ⟨(fun _ => by kernel_rfl), rfl, (fun _ => by simp [VOk])⟩
instance : Ty Try.prog 144 false 1 := ⟨(fun _ => by kernel_rfl), (fun _ => by kernel_rfl)⟩
instance : Zer Try.prog 144 (.nilf) := ⟨(fun _ => by kernel_rfl), rfl, (fun _ => by simp [VOk])⟩
instance : Ty Try.prog 145 false 1 := ⟨(fun _ => by kernel_rfl), (fun _ => by kernel_rfl)⟩
instance : Und Try.prog 145 (.int .u64) := ⟨by kernel_rfl⟩
instance : Zer Try.prog 145 (.int .u64 0) := ⟨(fun _ => by kernel_rfl), rfl, (fun _ => by simp [VOk])⟩
instance : Ty Try.prog 146 false 1 := ⟨(fun _ => by kernel_rfl), (fun _ => by kernel_rfl)⟩
instance : Und Try.prog 146 (.int .u64) := ⟨by kernel_rfl⟩
instance : Zer Try.prog 146 (.int .u64 0) := ⟨(fun _ => by kernel_rfl), rfl, (fun _ => by simp [VOk])⟩
instance : Ty Try.prog 147 false 1 := ⟨(fun _ => by kernel_rfl), (fun _ => by kernel_rfl)⟩
instance : Zer Try.prog 147 (.nilf) := ⟨(fun _ => by kernel_rfl), rfl, (fun _ => by simp [VOk])⟩
instance : Ty Try.prog 148 false 1 := ⟨(fun _ => by kernel_rfl), (fun _ => by kernel_rfl)⟩
instance : Zer Try.prog 148 (.nilf) := ⟨(fun _ => by kernel_rfl), rfl, (fun _ => by simp [VOk])⟩
instance : Ty Try.prog 149 false 1 := ⟨(fun _ => by kernel_rfl), (fun _ => by kernel_rfl)⟩
instance : Zer Try.prog 149 (.nilf) := ⟨(fun _ => by kernel_rfl), rfl, (fun _ => by simp [VOk])⟩
instance : Ty Try.prog 150 false 1 := ⟨(fun _ => by kernel_rfl), (fun _ => by kernel_rfl)⟩
instance : Und Try.prog 150 (.pointer 3) := ⟨by kernel_rfl⟩
instance : Zer Try.prog 150 (.nilp) := ⟨(fun _ => by kernel_rfl), rfl, (fun _ => by simp [VOk])⟩
instance : Ty Try.prog 151 false 1 := ⟨(fun _ => by kernel_rfl), (fun _ => by kernel_rfl)⟩
instance : Zer Try.prog 151 (.nilf) := ⟨(fun _ => by kernel_rfl), rfl, (fun _ => by simp [VOk])⟩
instance : Ty Try.prog 152 false 1 := ⟨(fun _ => by kernel_rfl), (fun _ => by kernel_rfl)⟩
instance : Und Try.prog 152 (.pointer 146) := ⟨by kernel_rfl⟩
instance : Zer Try.prog 152 (.nilp) := ⟨(fun _ => by kernel_rfl), rfl, (fun _ => by simp [VOk])⟩
instance : Ty Try.prog 154 false 1 := ⟨(fun _ => by kernel_rfl), (fun _ => by kernel_rfl)⟩
instance : Zer Try.prog 154 (.nilf) := ⟨(fun _ => by kernel_rfl), rfl, (fun _ => by simp [VOk])⟩
instance : Ty Try.prog 155 false 1 := ⟨(fun _ => by kernel_rfl), (fun _ => by kernel_rfl)⟩
instance : Zer Try.prog 155 (.nilf) := ⟨(fun _ => by kernel_rfl), rfl, (fun _ => by simp [VOk])⟩
instance : Ty Try.prog 161 false 1 := ⟨(fun _ => by kernel_rfl), (fun _ => by kernel_rfl)⟩
instance : Zer Try.prog 161 (.nilf) := ⟨(fun _ => by kernel_rfl), rfl, (fun _ => by simp [VOk])⟩
instance : Ty Try.prog 164 false 1 := ⟨(fun _ => by kernel_rfl), (fun _ => by kernel_rfl)⟩
instance : Zer Try.prog 164 (.nilf) := ⟨(fun _ => by kernel_rfl), rfl, (fun _ => by simp [VOk])⟩
instance : Ty Try.prog 165 false 1 := ⟨(fun _ => by kernel_rfl), (fun _ => by kernel_rfl)⟩
instance : Und Try.prog 165 (.pointer 5) := ⟨by kernel_rfl⟩
instance : Zer Try.prog 165 (.nilp) := ⟨(fun _ => by kernel_rfl), rfl, (fun _ => by simp [VOk])⟩
instance : Ty Try.prog 170 false 1 := ⟨(fun _ => by kernel_rfl), (fun _ => by kernel_rfl)⟩
instance {k : IntKind} {a b : Int} : EqV Try.prog 2 (.int k a) (.int k b) (decide (a = b)) 1 := EqV.int inferInstance (by kernel_rfl : Try.prog.underlying 2 = some (.int .i64))
instance {k : IntKind} {a b : Int} : EqV Try.prog 3 (.int k a) (.int k b) (decide (a = b)) 1 := EqV.int inferInstance (by kernel_rfl : Try.prog.underlying 3 = some (.int .i64))
instance {a b : Bool} : EqV Try.prog 4 (.bool a) (.bool b) (a == b) 1 := EqV.bool inferInstance (by kernel_rfl)
instance {k : IntKind} {a b : Int} : EqV Try.prog 5 (.int k a) (.int k b) (decide (a = b)) 1 := EqV.int inferInstance (by kernel_rfl : Try.prog.underlying 5 = some (.int .u8))
instance {a b : ByteArray} : EqV Try.prog 9 (.str a) (.str b) (a.toList == b.toList) 1 := EqV.str inferInstance (by kernel_rfl)
instance {k : IntKind} {a b : Int} : EqV Try.prog 12 (.int k a) (.int k b) (decide (a = b)) 1 := EqV.int inferInstance (by kernel_rfl : Try.prog.underlying 12 = some (.int .u64))
instance {k : IntKind} {a b : Int} : EqV Try.prog 21 (.int k a) (.int k b) (decide (a = b)) 1 := EqV.int inferInstance (by kernel_rfl : Try.prog.underlying 21 = some (.int .i32))
instance {xs ys : List Int} : EqV Try.prog 30 (.bytes 16 xs) (.bytes 16 ys) (eqBytes 16 xs ys) 2 := EqV.bytes (E := 5) inferInstance inferInstance (by kernel_rfl) (by kernel_rfl : Try.prog.underlying 5 = some (.int .u8))
instance : NoIf Try.prog 30 := ⟨by kernel_rfl⟩
instance {xs ys : List Int} : EqV Try.prog 31 (.bytes 16 xs) (.bytes 16 ys) (eqBytes 16 xs ys) 2 := EqV.bytes (E := 5) inferInstance inferInstance (by kernel_rfl) (by kernel_rfl : Try.prog.underlying 5 = some (.int .u8))
instance : NoIf Try.prog 31 := ⟨by kernel_rfl⟩
instance : NoIf Try.prog 32 := ⟨by kernel_rfl⟩
instance {a0 b0 a1 b1 : V} {r0 r1 : Bool} {k0 k1 : Nat} [h0 : EqV Try.prog 31 a0 b0 r0 k0] [h1 : EqV Try.prog 3 a1 b1 r1 k1] : EqV Try.prog 32 (.pair a0 a1) (.pair b0 b1) (r0 && r1) ((max k0 k1) + 1) := EqV.struct (n := 17) (fs := [((Try.prog.fieldsOf 32).getD 0 default), ((Try.prog.fieldsOf 32).getD 1 default)]) inferInstance (by kernel_rfl) (by kernel_rfl) (by kernel_rfl) (EqF.cons (by kernel_rfl) (by kernel_rfl) (by kernel_rfl) h0 inferInstance (EqF.one (by kernel_rfl) (by kernel_rfl) (by kernel_rfl) h1 inferInstance)) rfl rfl
instance : NoIf Try.prog 33 := ⟨by kernel_rfl⟩
instance {a0 b0 a1 b1 : V} {r0 r1 : Bool} {k0 k1 : Nat} [h0 : EqV Try.prog 31 a0 b0 r0 k0] [h1 : EqV Try.prog 3 a1 b1 r1 k1] : EqV Try.prog 33 (.pair a0 a1) (.pair b0 b1) (r0 && r1) ((max k0 k1) + 1) := EqV.struct (n := 17) (fs := [((Try.prog.fieldsOf 33).getD 0 default), ((Try.prog.fieldsOf 33).getD 1 default)]) inferInstance (by kernel_rfl) (by kernel_rfl) (by kernel_rfl) (EqF.cons (by kernel_rfl) (by kernel_rfl) (by kernel_rfl) h0 inferInstance (EqF.one (by kernel_rfl) (by kernel_rfl) (by kernel_rfl) h1 inferInstance)) rfl rfl
instance : NoIf Try.prog 34 := ⟨by kernel_rfl⟩
instance {a0 b0 a1 b1 : V} {r0 r1 : Bool} {k0 k1 : Nat} [h0 : EqV Try.prog 33 a0 b0 r0 k0] [h1 : EqV Try.prog 33 a1 b1 r1 k1] : EqV Try.prog 34 (.pair a0 a1) (.pair b0 b1) (r0 && r1) ((max k0 k1) + 1) := EqV.struct (n := 34) (fs := [((Try.prog.fieldsOf 34).getD 0 default), ((Try.prog.fieldsOf 34).getD 1 default)]) inferInstance (by kernel_rfl) (by kernel_rfl) (by kernel_rfl) (EqF.cons (by kernel_rfl) (by kernel_rfl) (by kernel_rfl) h0 inferInstance (EqF.one (by kernel_rfl) (by kernel_rfl) (by kernel_rfl) h1 inferInstance)) rfl rfl
instance : NoIf Try.prog 35 := ⟨by kernel_rfl⟩
instance {a0 b0 a1 b1 : V} {r0 r1 : Bool} {k0 k1 : Nat} [h0 : EqV Try.prog 33 a0 b0 r0 k0] [h1 : EqV Try.prog 33 a1 b1 r1 k1] : EqV Try.prog 35 (.pair a0 a1) (.pair b0 b1) (r0 && r1) ((max k0 k1) + 1) := EqV.struct (n := 34) (fs := [((Try.prog.fieldsOf 35).getD 0 default), ((Try.prog.fieldsOf 35).getD 1 default)]) inferInstance (by kernel_rfl) (by kernel_rfl) (by kernel_rfl) (EqF.cons (by kernel_rfl) (by kernel_rfl) (by kernel_rfl) h0 inferInstance (EqF.one (by kernel_rfl) (by kernel_rfl) (by kernel_rfl) h1 inferInstance)) rfl rfl
instance : NoIf Try.prog 36 := ⟨by kernel_rfl⟩
instance {a0 b0 a1 b1 a2 b2 : V} {r0 r1 r2 : Bool} {k0 k1 k2 : Nat} [h0 : EqV Try.prog 35 a0 b0 r0 k0] [h1 : EqV Try.prog 3 a1 b1 r1 k1] [h2 : EqV Try.prog 31 a2 b2 r2 k2] : EqV Try.prog 36 (.pair a0 (.pair a1 a2)) (.pair b0 (.pair b1 b2)) (r0 && (r1 && r2)) ((max k0 (max k1 k2)) + 1) := EqV.struct (n := 51) (fs := [((Try.prog.fieldsOf 36).getD 0 default), ((Try.prog.fieldsOf 36).getD 1 default), ((Try.prog.fieldsOf 36).getD 2 default)]) inferInstance (by kernel_rfl) (by kernel_rfl) (by kernel_rfl) (EqF.cons (by kernel_rfl) (by kernel_rfl) (by kernel_rfl) h0 inferInstance (EqF.cons (by kernel_rfl) (by kernel_rfl) (by kernel_rfl) h1 inferInstance (EqF.one (by kernel_rfl) (by kernel_rfl) (by kernel_rfl) h2 inferInstance))) rfl rfl
instance : NoIf Try.prog 37 := ⟨by kernel_rfl⟩
instance {a0 b0 a1 b1 a2 b2 : V} {r0 r1 r2 : Bool} {k0 k1 k2 : Nat} [h0 : EqV Try.prog 35 a0 b0 r0 k0] [h1 : EqV Try.prog 3 a1 b1 r1 k1] [h2 : EqV Try.prog 31 a2 b2 r2 k2] : EqV Try.prog 37 (.pair a0 (.pair a1 a2)) (.pair b0 (.pair b1 b2)) (r0 && (r1 && r2)) ((max k0 (max k1 k2)) + 1) := EqV.struct (n := 51) (fs := [((Try.prog.fieldsOf 37).getD 0 default), ((Try.prog.fieldsOf 37).getD 1 default), ((Try.prog.fieldsOf 37).getD 2 default)]) inferInstance (by kernel_rfl) (by kernel_rfl) (by kernel_rfl) (EqF.cons (by kernel_rfl) (by kernel_rfl) (by kernel_rfl) h0 inferInstance (EqF.cons (by kernel_rfl) (by kernel_rfl) (by kernel_rfl) h1 inferInstance (EqF.one (by kernel_rfl) (by kernel_rfl) (by kernel_rfl) h2 inferInstance))) rfl rfl
instance : NoIf Try.prog 38 := ⟨by kernel_rfl⟩
instance {a0 b0 a1 b1 : V} {r0 r1 : Bool} {k0 k1 : Nat} [h0 : EqV Try.prog 3 a0 b0 r0 k0] [h1 : EqV Try.prog 37 a1 b1 r1 k1] : EqV Try.prog 38 (.pair a0 a1) (.pair b0 b1) (r0 && r1) ((max k0 k1) + 1) := EqV.struct (n := 52) (fs := [((Try.prog.fieldsOf 38).getD 0 default), ((Try.prog.fieldsOf 38).getD 1 default)]) inferInstance (by kernel_rfl) (by kernel_rfl) (by kernel_rfl) (EqF.cons (by kernel_rfl) (by kernel_rfl) (by kernel_rfl) h0 inferInstance (EqF.one (by kernel_rfl) (by kernel_rfl) (by kernel_rfl) h1 inferInstance)) rfl rfl
instance : NoIf Try.prog 39 := ⟨by kernel_rfl⟩
instance {a0 b0 a1 b1 : V} {r0 r1 : Bool} {k0 k1 : Nat} [h0 : EqV Try.prog 3 a0 b0 r0 k0] [h1 : EqV Try.prog 37 a1 b1 r1 k1] : EqV Try.prog 39 (.pair a0 a1) (.pair b0 b1) (r0 && r1) ((max k0 k1) + 1) := EqV.struct (n := 52) (fs := [((Try.prog.fieldsOf 39).getD 0 default), ((Try.prog.fieldsOf 39).getD 1 default)]) inferInstance (by kernel_rfl) (by kernel_rfl) (by kernel_rfl) (EqF.cons (by kernel_rfl) (by kernel_rfl) (by kernel_rfl) h0 inferInstance (EqF.one (by kernel_rfl) (by kernel_rfl) (by kernel_rfl) h1 inferInstance)) rfl rfl
instance : NoIf Try.prog 40 := ⟨by kernel_rfl⟩
instance {a0 b0 a1 b1 a2 b2 a3 b3 a4 b4 : V} {r0 r1 r2 r3 r4 : Bool} {k0 k1 k2 k3 k4 : Nat} [h0 : EqV Try.prog 3 a0 b0 r0 k0] [h1 : EqV Try.prog 39 a1 b1 r1 k1] [h2 : EqV Try.prog 3 a2 b2 r2 k2] [h3 : EqV Try.prog 31 a3 b3 r3 k3] [h4 : EqV Try.prog 31 a4 b4 r4 k4] : EqV Try.prog 40 (.pair a0 (.pair a1 (.pair a2 (.pair a3 a4)))) (.pair b0 (.pair b1 (.pair b2 (.pair b3 b4)))) (r0 && (r1 && (r2 && (r3 && r4)))) ((max k0 (max k1 (max k2 (max k3 k4)))) + 1) := EqV.struct (n := 86) (fs := [((Try.prog.fieldsOf 40).getD 0 default), ((Try.prog.fieldsOf 40).getD 1 default), ((Try.prog.fieldsOf 40).getD 2 default), ((Try.prog.fieldsOf 40).getD 3 default), ((Try.prog.fieldsOf 40).getD 4 default)]) inferInstance (by kernel_rfl) (by kernel_rfl) (by kernel_rfl) (EqF.cons (by kernel_rfl) (by kernel_rfl) (by kernel_rfl) h0 inferInstance (EqF.cons (by kernel_rfl) (by kernel_rfl) (by kernel_rfl) h1 inferInstance (EqF.cons (by kernel_rfl) (by kernel_rfl) (by kernel_rfl) h2 inferInstance (EqF.cons (by kernel_rfl) (by kernel_rfl) (by kernel_rfl) h3 inferInstance (EqF.one (by kernel_rfl) (by kernel_rfl) (by kernel_rfl) h4 inferInstance))))) rfl rfl
instance : NoIf Try.prog 41 := ⟨by kernel_rfl⟩
instance {a0 b0 a1 b1 a2 b2 a3 b3 a4 b4 : V} {r0 r1 r2 r3 r4 : Bool} {k0 k1 k2 k3 k4 : Nat} [h0 : EqV Try.prog 3 a0 b0 r0 k0] [h1 : EqV Try.prog 39 a1 b1 r1 k1] [h2 : EqV Try.prog 3 a2 b2 r2 k2] [h3 : EqV Try.prog 31 a3 b3 r3 k3] [h4 : EqV Try.prog 31 a4 b4 r4 k4] : EqV Try.prog 41 (.pair a0 (.pair a1 (.pair a2 (.pair a3 a4)))) (.pair b0 (.pair b1 (.pair b2 (.pair b3 b4)))) (r0 && (r1 && (r2 && (r3 && r4)))) ((max k0 (max k1 (max k2 (max k3 k4)))) + 1) := EqV.struct (n := 86) (fs := [((Try.prog.fieldsOf 41).getD 0 default), ((Try.prog.fieldsOf 41).getD 1 default), ((Try.prog.fieldsOf 41).getD 2 default), ((Try.prog.fieldsOf 41).getD 3 default), ((Try.prog.fieldsOf 41).getD 4 default)]) inferInstance (by kernel_rfl) (by kernel_rfl) (by kernel_rfl) (EqF.cons (by kernel_rfl) (by kernel_rfl) (by kernel_rfl) h0 inferInstance (EqF.cons (by kernel_rfl) (by kernel_rfl) (by kernel_rfl) h1 inferInstance (EqF.cons (by kernel_rfl) (by kernel_rfl) (by kernel_rfl) h2 inferInstance (EqF.cons (by kernel_rfl) (by kernel_rfl) (by kernel_rfl) h3 inferInstance (EqF.one (by kernel_rfl) (by kernel_rfl) (by kernel_rfl) h4 inferInstance))))) rfl rfl
instance {k : IntKind} {a b : Int} : EqV Try.prog 70 (.int k a) (.int k b) (decide (a = b)) 1 := EqV.int inferInstance (by kernel_rfl : Try.prog.underlying 70 = some (.int .i64))
instance : NoIf Try.prog 107 := ⟨by kernel_rfl⟩
instance {a0 b0 a1 b1 : V} {r0 r1 : Bool} {k0 k1 : Nat} [h0 : EqV Try.prog 35 a0 b0 r0 k0] [h1 : EqV Try.prog 3 a1 b1 r1 k1] : EqV Try.prog 107 (.pair a0 a1) (.pair b0 b1) (r0 && r1) ((max k0 k1) + 1) := EqV.struct (n := 35) (fs := [((Try.prog.fieldsOf 107).getD 0 default), ((Try.prog.fieldsOf 107).getD 1 default)]) inferInstance (by kernel_rfl) (by kernel_rfl) (by kernel_rfl) (EqF.cons (by kernel_rfl) (by kernel_rfl) (by kernel_rfl) h0 inferInstance (EqF.one (by kernel_rfl) (by kernel_rfl) (by kernel_rfl) h1 inferInstance)) rfl rfl
instance : NoIf Try.prog 108 := ⟨by kernel_rfl⟩
instance {a0 b0 a1 b1 : V} {r0 r1 : Bool} {k0 k1 : Nat} [h0 : EqV Try.prog 35 a0 b0 r0 k0] [h1 : EqV Try.prog 3 a1 b1 r1 k1] : EqV Try.prog 108 (.pair a0 a1) (.pair b0 b1) (r0 && r1) ((max k0 k1) + 1) := EqV.struct (n := 35) (fs := [((Try.prog.fieldsOf 108).getD 0 default), ((Try.prog.fieldsOf 108).getD 1 default)]) inferInstance (by kernel_rfl) (by kernel_rfl) (by kernel_rfl) (EqF.cons (by kernel_rfl) (by kernel_rfl) (by kernel_rfl) h0 inferInstance (EqF.one (by kernel_rfl) (by kernel_rfl) (by kernel_rfl) h1 inferInstance)) rfl rfl
instance {k : IntKind} {a b : Int} : EqV Try.prog 122 (.int k a) (.int k b) (decide (a = b)) 1 := EqV.int inferInstance (by kernel_rfl : Try.prog.underlying 122 = some (.int .u16))
instance {k : IntKind} {a b : Int} : EqV Try.prog 130 (.int k a) (.int k b) (decide (a = b)) 1 := EqV.int inferInstance (by kernel_rfl : Try.prog.underlying 130 = some (.int .u64))
instance {k : IntKind} {a b : Int} : EqV Try.prog 136 (.int k a) (.int k b) (decide (a = b)) 1 := EqV.int inferInstance (by kernel_rfl : Try.prog.underlying 136 = some (.int .i64))
instance {k : IntKind} {a b : Int} : EqV Try.prog 143 (.int k a) (.int k b) (decide (a = b)) 1 := EqV.int inferInstance (by kernel_rfl : Try.prog.underlying 143 = some (.int .u32))
instance {k : IntKind} {a b : Int} : EqV Try.prog 145 (.int k a) (.int k b) (decide (a = b)) 1 := EqV.int inferInstance (by kernel_rfl : Try.prog.underlying 145 = some (.int .u64))
instance {k : IntKind} {a b : Int} : EqV Try.prog 146 (.int k a) (.int k b) (decide (a = b)) 1 := EqV.int inferInstance (by kernel_rfl : Try.prog.underlying 146 = some (.int .u64))
instance : Ent Try.prog 2 := ⟨fun _ _ => by kernel_rfl⟩
instance : Ent Try.prog 3 := ⟨fun _ _ => by kernel_rfl⟩
instance : Ent Try.prog 4 := ⟨fun _ _ => by kernel_rfl⟩
instance : Ent Try.prog 5 := ⟨fun _ _ => by kernel_rfl⟩
instance : Ent Try.prog 6 := ⟨fun _ _ => by kernel_rfl⟩
instance : Ent Try.prog 7 := ⟨fun _ _ => by kernel_rfl⟩
instance : Ent Try.prog 8 := ⟨fun _ _ => by kernel_rfl⟩
instance : Ent Try.prog 9 := ⟨fun _ _ => by kernel_rfl⟩
instance : Ent Try.prog 10 := ⟨fun _ _ => by kernel_rfl⟩
instance : Ent Try.prog 11 := ⟨fun _ _ => by kernel_rfl⟩
instance : Ent Try.prog 12 := ⟨fun _ _ => by kernel_rfl⟩
instance : Ent Try.prog 13 := ⟨fun _ _ => by kernel_rfl⟩
instance : Ent Try.prog 14 := ⟨fun _ _ => by kernel_rfl⟩
instance : Ent Try.prog 15 := ⟨fun _ _ => by kernel_rfl⟩
instance : Ent Try.prog 16 := ⟨fun _ _ => by kernel_rfl⟩
instance : Ent Try.prog 17 := ⟨fun _ _ => by kernel_rfl⟩
instance : Ent Try.prog 18 := ⟨fun _ _ => by kernel_rfl⟩
instance : Ent Try.prog 19 := ⟨fun _ _ => by kernel_rfl⟩
instance : Ent Try.prog 20 := ⟨fun _ _ => by kernel_rfl⟩
instance : Ent Try.prog 21 := ⟨fun _ _ => by kernel_rfl⟩
instance : Ent Try.prog 22 := ⟨fun _ _ => by kernel_rfl⟩
instance : Ent Try.prog 23 := ⟨fun _ _ => by kernel_rfl⟩
instance : Ent Try.prog 24 := ⟨fun _ _ => by kernel_rfl⟩
instance : Ent Try.prog 25 := ⟨fun _ _ => by kernel_rfl⟩
instance : Ent Try.prog 26 := ⟨fun _ _ => by kernel_rfl⟩
instance : Ent Try.prog 27 := ⟨fun _ _ => by kernel_rfl⟩
instance : Ent Try.prog 28 := ⟨fun _ _ => by kernel_rfl⟩
instance : Ent Try.prog 29 := ⟨fun _ _ => by kernel_rfl⟩
instance : Ent Try.prog 30 := ⟨fun _ _ => by kernel_rfl⟩
instance : Ent Try.prog 31 := ⟨fun _ _ => by kernel_rfl⟩
instance : Ent Try.prog 32 := ⟨fun _ _ => by kernel_rfl⟩
instance : Ent Try.prog 33 := ⟨fun _ _ => by kernel_rfl⟩
instance : Ent Try.prog 34 := ⟨fun _ _ => by kernel_rfl⟩
instance : Ent Try.prog 35 := ⟨fun _ _ => by kernel_rfl⟩
instance : Ent Try.prog 36 := ⟨fun _ _ => by kernel_rfl⟩
instance : Ent Try.prog 37 := ⟨fun _ _ => by kernel_rfl⟩
instance : Ent Try.prog 38 := ⟨fun _ _ => by kernel_rfl⟩
instance : Ent Try.prog 39 := ⟨fun _ _ => by kernel_rfl⟩
instance : Ent Try.prog 40 := ⟨fun _ _ => by kernel_rfl⟩
instance : Ent Try.prog 41 := ⟨fun _ _ => by kernel_rfl⟩
instance : Ent Try.prog 42 := ⟨fun _ _ => by kernel_rfl⟩
instance : Ent Try.prog 43 := ⟨fun _ _ => by kernel_rfl⟩
instance : Ent Try.prog 44 := ⟨fun _ _ => by kernel_rfl⟩
instance : Ent Try.prog 45 := ⟨fun _ _ => by kernel_rfl⟩
instance : Ent Try.prog 46 := ⟨fun _ _ => by kernel_rfl⟩
instance : Ent Try.prog 47 := ⟨fun _ _ => by kernel_rfl⟩
instance : Ent Try.prog 48 := ⟨fun _ _ => by kernel_rfl⟩
instance : Ent Try.prog 49 := ⟨fun _ _ => by kernel_rfl⟩
instance : Ent Try.prog 50 := ⟨fun _ _ => by kernel_rfl⟩
instance : Ent Try.prog 51 := ⟨fun _ _ => by kernel_rfl⟩
instance : Ent Try.prog 52 := ⟨fun _ _ => by kernel_rfl⟩
instance : Ent Try.prog 53 := ⟨fun _ _ => by kernel_rfl⟩
instance : Ent Try.prog 54 := ⟨fun _ _ => by kernel_rfl⟩
instance : Ent Try.prog 55 := ⟨fun _ _ => by kernel_rfl⟩
instance : Ent Try.prog 56 := ⟨fun _ _ => by kernel_rfl⟩
instance : Ent Try.prog 57 := ⟨fun _ _ => by kernel_rfl⟩
instance : Ent Try.prog 58 := ⟨fun _ _ => by kernel_rfl⟩
instance : Ent Try.prog 59 := ⟨fun _ _ => by kernel_rfl⟩
instance : Ent Try.prog 60 := ⟨fun _ _ => by kernel_rfl⟩
instance : Ent Try.prog 61 := ⟨fun _ _ => by kernel_rfl⟩
instance : Ent Try.prog 62 := ⟨fun _ _ => by kernel_rfl⟩
instance : Ent Try.prog 63 := ⟨fun _ _ => by kernel_rfl⟩
instance : Ent Try.prog 64 := ⟨fun _ _ => by kernel_rfl⟩
instance : Ent Try.prog 65 := ⟨fun _ _ => by kernel_rfl⟩
instance : Ent Try.prog 66 := ⟨fun _ _ => by kernel_rfl⟩
instance : Ent Try.prog 67 := ⟨fun _ _ => by kernel_rfl⟩
instance : Ent Try.prog 68 := ⟨fun _ _ => by kernel_rfl⟩
instance : Ent Try.prog 69 := ⟨fun _ _ => by kernel_rfl⟩
instance : Ent Try.prog 70 := ⟨fun _ _ => by kernel_rfl⟩
instance : Ent Try.prog 71 := ⟨fun _ _ => by kernel_rfl⟩
instance : Ent Try.prog 72 := ⟨fun _ _ => by kernel_rfl⟩
instance : Ent Try.prog 73 := ⟨fun _ _ => by kernel_rfl⟩
instance : Ent Try.prog 74 := ⟨fun _ _ => by kernel_rfl⟩
instance : Ent Try.prog 75 := ⟨fun _ _ => by kernel_rfl⟩
instance : Ent Try.prog 76 := ⟨fun _ _ => by kernel_rfl⟩
instance : Ent Try.prog 77 := ⟨fun _ _ => by kernel_rfl⟩
instance : Ent Try.prog 79 := ⟨fun _ _ => by kernel_rfl⟩
instance : Ent Try.prog 80 := ⟨fun _ _ => by kernel_rfl⟩
instance : Ent Try.prog 81 := ⟨fun _ _ => by kernel_rfl⟩
instance : Ent Try.prog 82 := ⟨fun _ _ => by kernel_rfl⟩
instance : Ent Try.prog 83 := ⟨fun _ _ => by kernel_rfl⟩
instance : Ent Try.prog 84 := ⟨fun _ _ => by kernel_rfl⟩
instance : Ent Try.prog 85 := ⟨fun _ _ => by kernel_rfl⟩
instance : Ent Try.prog 86 := ⟨fun _ _ => by kernel_rfl⟩
instance : Ent Try.prog 87 := ⟨fun _ _ => by kernel_rfl⟩
instance : Ent Try.prog 88 := ⟨fun _ _ => by kernel_rfl⟩
instance : Ent Try.prog 89 := ⟨fun _ _ => by kernel_rfl⟩
instance : Ent Try.prog 90 := ⟨fun _ _ => by kernel_rfl⟩
instance : Ent Try.prog 91 := ⟨fun _ _ => by kernel_rfl⟩
instance : Ent Try.prog 92 := ⟨fun _ _ => by kernel_rfl⟩
instance : Ent Try.prog 93 := ⟨fun _ _ => by kernel_rfl⟩
instance : Ent Try.prog 94 := ⟨fun _ _ => by kernel_rfl⟩
instance : Ent Try.prog 95 := ⟨fun _ _ => by kernel_rfl⟩
instance : Ent Try.prog 97 := ⟨fun _ _ => by kernel_rfl⟩
instance : Ent Try.prog 98 := ⟨fun _ _ => by kernel_rfl⟩
instance : Ent Try.prog 99 := ⟨fun _ _ => by kernel_rfl⟩
instance : Ent Try.prog 100 := ⟨fun _ _ => by kernel_rfl⟩
instance : Ent Try.prog 101 := ⟨fun _ _ => by kernel_rfl⟩
instance : Ent Try.prog 102 := ⟨fun _ _ => by kernel_rfl⟩
instance : Ent Try.prog 103 := ⟨fun _ _ => by kernel_rfl⟩
instance : Ent Try.prog 104 := ⟨fun _ _ => by kernel_rfl⟩
instance : Ent Try.prog 105 := ⟨fun _ _ => by kernel_rfl⟩
instance : Ent Try.prog 106 := ⟨fun _ _ => by kernel_rfl⟩
instance : Ent Try.prog 107 := ⟨fun _ _ => by kernel_rfl⟩
instance : Ent Try.prog 108 := ⟨fun _ _ => by kernel_rfl⟩
instance : Ent Try.prog 109 := ⟨fun _ _ => by kernel_rfl⟩
instance : Ent Try.prog 110 := ⟨fun _ _ => by kernel_rfl⟩
instance : Ent Try.prog 111 := ⟨fun _ _ => by kernel_rfl⟩
instance : Ent Try.prog 112 := ⟨fun _ _ => by kernel_rfl⟩
end Go.Vm
