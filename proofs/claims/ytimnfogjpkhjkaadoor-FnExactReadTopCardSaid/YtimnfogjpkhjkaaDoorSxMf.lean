/-
  Sx, part Mf: walks made once under short facts, in which all ways but one end alike, as one question.
-/
import Derived.Test.YtimnfogjpkhjkaaDoorSxPs
namespace Go.Sx
open E (mk1 mk2 mkIte mk1_ev mk2_ev mkIte_ev)

/-- Do all ways end like this? -/
def allF (F : SV) : Tree SV → Bool
  | .ret x => SV.fit F x
  | .ite _ t e => allF F t && allF F e
  | _ => false
def ntE : E → E
  | .o2 .ilt a b => mk2 .ile b a
  | c => mk1 .not c
theorem ntE_ev {U : Nat → D → D} {r : Nat → D} (c : E) : ((ntE c).ev U r).toB = !(c.ev U r).toB := by
  unfold ntE
  split
  · rename_i a b
    rw [mk2_ev]
    show decide ((b.ev U r).toI ≤ (a.ev U r).toI) = !decide ((a.ev U r).toI < (b.ev U r).toI)
    by_cases h : (a.ev U r).toI < (b.ev U r).toI
    · rw [decide_eq_true h, decide_eq_false (by omega)]; rfl
    · rw [decide_eq_false h, decide_eq_true (by omega)]; rfl
  · rw [mk1_ev]; rfl
def splitF (F : SV) : Tree SV → E × Tree SV
  | .ite c t e => if allF F e then (mk2 .band c (splitF F t).1, (splitF F t).2) else if allF F t then (mk2 .band (ntE c) (splitF F e).1, (splitF F e).2) else (.b true, .ite c t e)
  | t => (.b true, t)
def mergeF (F : SV) (t : Tree SV) : Tree SV := .ite (splitF F t).1 (splitF F t).2 (.ret F)
section
variable {U : Nat → D → D} {r : Nat → D} {w : World} {P : Program} {cf : FuncId → List SV → Cx → Tree (SV × Cx)} {K : Value → World → Prop}
theorem allF_says {F : SV} (hF : Says U (.ret F) K w r) : ∀ {t : Tree SV}, allF F t = true → Says U t K w r := by
  intro t
  induction t with
  | ret x =>
    intro h
    unfold Says at hF ⊢
    rw [sat_ret] at hF ⊢
    intro g' L' v w' hf hv
    exact hF g' L' v w' hf (SV.fit_den h hv)
  | ite c t e iht ihe =>
    intro h
    simp only [allF, Bool.and_eq_true] at h
    unfold Says
    rw [sat_ite]
    exact ⟨fun _ => iht h.1, fun _ => ihe h.2⟩
  | _ => intro h; cases h
theorem splitF_says {F : SV} : ∀ {t : Tree SV}, (((splitF F t).1.ev U r).toB = true → Says U (splitF F t).2 K w r) → (((splitF F t).1.ev U r).toB = false → Says U (.ret F) K w r) → Says U t K w r := by
  intro t
  induction t with
  | ite c t e iht ihe =>
    intro h1 h2
    unfold splitF at h1 h2
    split at h1
    · rename_i ha
      rw [if_pos ha] at h2
      unfold Says
      rw [sat_ite]
      refine ⟨fun hc => iht (fun hs => h1 ?_) (fun hs => h2 ?_), fun hc => allF_says (h2 ?_) ha⟩
      · rw [mk2_ev]; show ((c.ev U r).toB && _) = true; rw [hc, hs]; rfl
      · rw [mk2_ev]; show ((c.ev U r).toB && _) = false; rw [hc, hs]; rfl
      · rw [mk2_ev]; show ((c.ev U r).toB && _) = false; rw [hc]; rfl
    · rename_i ha
      rw [if_neg ha] at h2
      split at h1
      · rename_i hb
        rw [if_pos hb] at h2
        unfold Says
        rw [sat_ite]
        refine ⟨fun hc => allF_says (h2 ?_) hb, fun hc => ihe (fun hs => h1 ?_) (fun hs => h2 ?_)⟩
        · rw [mk2_ev]; show (((ntE c).ev U r).toB && _) = false; rw [ntE_ev, hc]; rfl
        · rw [mk2_ev]; show (((ntE c).ev U r).toB && _) = true; rw [ntE_ev, hc, hs]; rfl
        · rw [mk2_ev]; show (((ntE c).ev U r).toB && _) = false; rw [ntE_ev, hc, hs]; rfl
      · exact h1 rfl
  | _ => intro h1 _; exact h1 rfl
theorem mergeF_says {F : SV} {t : Tree SV} (h : Says U (mergeF F t) K w r) : Says U t K w r := by
  unfold mergeF Says at h
  rw [sat_ite] at h
  exact splitF_says (fun hc => h.1 hc) (fun hc => h.2 hc)

/-- A walk made once, under facts. -/
def memoP (ps : List Pt) (pc : List (E × Bool)) (T : Tree SV) (args : List SV) (c : Cx) : Tree (SV × Cx) :=
  match ptE ps args with
  | some s => if okPc (numbered 0 s) c.pc pc then subT (numbered 0 s) c T else .bad
  | none => .bad
theorem memoP_ok (hcf : CallsOk U P cf) (f : FuncId) (ps : List Pt) (pc : List (E × Bool)) (F : SV) : EntryOk U P f (memoP ps pc (mergeF F (resT (cf f (ptGo 0 ps) ⟨[], 1000, pc⟩)))) := by
  intro args c L r g w vs K hh hp hd h
  unfold memoP at h
  split at h
  case h_2 => exact h.elim
  rename_i s hse
  split at h
  case isFalse => exact h.elim
  rename_i hpc
  obtain ⟨r', hf, hsays⟩ := subT_says hh rfl (Nat.le_refl _) hp h
  have hpc' := okPc_ok hf hp hpc
  have hd' : SV.denL U r' g (fun _ => False) (ptGo 0 ps) vs.toList := ptE_den hse (fun j e he => hf _ _ (lkM_numbered he)) hd
  have hs := mergeF_says hsays
  refine hcf f (ptGo 0 ps) ⟨[], 1000, pc⟩ (fun _ => False) r' g w vs K noHeap hpc' hd' (Tree.sat_mono ?_ (says_resT.1 hs))
  intro r'' x hx g' v w' he hd''
  refine hx g' _ v w' ?_ hd''
  exact ⟨he.frm.os, he.frm.tape, he.frm.output, he.frm.size, fun k hk _ => he.frm.block k hk (fun ⟨_, _, h, _⟩ => h)⟩
end
end Go.Sx
