/-
  Desks: validity, walked once on each side.
-/
import Derived.Test.YtaflnmmnaiaceaaRowsV
namespace Go.Proofs.Ytaflnmmnaiaceaa
open Go.Sx
set_option maxRecDepth 100000

noncomputable def allU : Nat → D → D := fun n d => bif Nat.ble n 17 then deskU n d else validU n d
theorem allDesk : DeskWords allU := deskWords fun n _ h d => by unfold allU; rw [h]; rfl
theorem allValid : ValidWords allU := validWords fun n h _ d => by
  unfold allU
  have : Nat.ble n 17 = false := by
    cases hb : Nat.ble n 17 with
    | false => rfl
    | true => have h1 := Nat.le_of_ble_eq_true h; have h2 := Nat.le_of_ble_eq_true hb; omega
  rw [this]; rfl
noncomputable def ctV : Contracts := ctVof ct2
theorem ctV_ok : ContractsOk allU Try.prog ctV := ctVof_ok ct2_ok allValid
noncomputable def cfV := callX Try.prog ctV (exec Try.prog ctV 100)
theorem cfV_ok : CallsOk allU Try.prog cfV := @calls_ok allU Try.prog ctV Try.mixes Try.names ctV_ok 100
noncomputable def M27 := memoH pD1 (heapT (cfV 27 pD1.as pD1.c0)) (fun _ _ => .bad)
noncomputable def M28 := memoH pD1 (heapT (cfV 28 pD1.as pD1.c0)) (fun _ _ => .bad)
noncomputable def ctW : Contracts := (ctM.add 27 M27).add 28 M28
theorem ctW_ok : ContractsOk allU Try.prog ctW := ((ctM_ok allDesk).add (memoH_ok cfV_ok pD1 bad_ok)).add (memoH_ok cfV_ok pD1 bad_ok)
noncomputable def cfW := callX Try.prog ctW (exec Try.prog ctW 100)
theorem cfW_ok : CallsOk allU Try.prog cfW := @calls_ok allU Try.prog ctW Try.mixes Try.names ctW_ok 100
abbrev desks1 : List AArg := [deskArg]

end Go.Proofs.Ytaflnmmnaiaceaa
