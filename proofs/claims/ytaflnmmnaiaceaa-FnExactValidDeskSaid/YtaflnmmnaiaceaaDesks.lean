/-
  Desks: the functions over whole desks, each walked once.
-/
import Derived.Test.YtaflnmmnaiaceaaRowsD
import Derived.Test.YtaflnmmnaiaceaaSxPs
namespace Go.Proofs.Ytaflnmmnaiaceaa
open Go.Sx
set_option maxRecDepth 100000

theorem bad_ok {f : FuncId} {U : Nat → D → D} : EntryOk U Try.prog f (fun _ _ => .bad) := fun _ _ _ _ _ _ _ _ _ _ _ h => h.elim
noncomputable def pD1 : HPat := hpA 1048576 [deskArg]
noncomputable def pD2 : HPat := hpA 1048576 [deskArg, deskArg]
/-- Two desks with the same numbers. -/
noncomputable def pDE : HPat := ⟨argGoA 0 0 [deskArg] ++ argGoA 0 6 [deskArg], argBs 0 [deskArg] ++ argBs 0 [deskArg], pD1.pc⟩
noncomputable def body23 : Code := (Try.f23.body).getD .skip
noncomputable def W23 := wiseRun 1048576 16 (textL Try.prog ctD (fun _ => none) 100 Try.f23 body23)
theorem w23 {U : Nat → D → D} (hw : DeskWords U) : EntryOk U Try.prog 23 W23 := wise_ok (textL_entry Try.mixes Try.names (ctD_ok hw) Try.func23 (by kernel_rfl) loops_none)
noncomputable def M25 := memoH pD1 (heapT (cfD 25 pD1.as pD1.c0)) (fun _ _ => .bad)
noncomputable def M24 := memoH pD2 (heapT (cfD 24 pD2.as pD2.c0)) (fun _ _ => .bad)
noncomputable def M26 := memoH pD2 (heapT (cfD 26 pD2.as pD2.c0)) (fun _ _ => .bad)
noncomputable def M10 := memoH pDE (heapT (cfD 10 pDE.as pDE.c0)) (fun _ _ => .bad)
noncomputable def ctM : Contracts := ((((ctD.add 23 W23).add 25 M25).add 24 M24).add 26 M26).add 10 M10
theorem ctM_ok {U : Nat → D → D} (hw : DeskWords U) : ContractsOk U Try.prog ctM := (((((ctD_ok hw).add (w23 hw)).add (memoH_ok (cfD_ok hw) pD1 bad_ok)).add (memoH_ok (cfD_ok hw) pD2 bad_ok)).add (memoH_ok (cfD_ok hw) pD2 bad_ok)).add (memoH_ok (cfD_ok hw) pDE bad_ok)
noncomputable def cfM := callX Try.prog ctM (exec Try.prog ctM 100)
theorem cfM_ok : CallsOk deskU Try.prog cfM := @calls_ok deskU Try.prog ctM Try.mixes Try.names (ctM_ok (deskWords fun _ _ _ _ => rfl)) 100
noncomputable def lawM : Tree SV := resT (cfM 6 (argGoA 0 0 desks2) (cxA desks2))

end Go.Proofs.Ytaflnmmnaiaceaa
