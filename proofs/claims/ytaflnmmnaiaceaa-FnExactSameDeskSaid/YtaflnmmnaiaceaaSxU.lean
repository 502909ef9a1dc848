/-
  Sx, part U: leaves that say 'true or y' joined; contracts by walks made once.
-/
import Derived.Test.YtaflnmmnaiaceaaSxT
namespace Go.Sx
open E (mk1 mk2 mkIte mk1_ev mk2_ev mkIte_ev)

/-- 'true if c, else y' as one word. -/
def orLeaf (c : E) : Tree SV → Tree SV → Tree SV
  | .ret (.bool (.b true)), .ret (.bool y) => .ret (.bool (mk2 .bor c y))
  | t, e => .ite c t e

def orMerge : Tree SV → Tree SV
  | .ite c t e => orLeaf c (orMerge t) (orMerge e)
  | .chk c t => .chk c (orMerge t)
  | t => t

section
variable {U : Nat → D → D} {r : Nat → D} {w : World} {P : Program} {cf : FuncId → List SV → Cx → Tree (SV × Cx)} {K : Value → World → Prop}

theorem orLeaf_says {c : E} {t e : Tree SV} (h : Says U (orLeaf c t e) K w r) : Says U (.ite c t e) K w r := by
  unfold orLeaf at h
  split at h
  · rename_i y
    unfold Says at h ⊢
    rw [sat_ret] at h
    rw [sat_ite, sat_ret, sat_ret]
    simp only [SV.den, mk2_ev, O2.ev, D.toB_b] at h ⊢
    constructor
    · intro hc g' L' v w' hf hv
      refine h g' L' v w' hf ?_
      rw [hc]; simpa [E.ev, D.toB] using hv
    · intro hc g' L' v w' hf hv
      refine h g' L' v w' hf ?_
      rw [hc]; simpa using hv
  · exact h

theorem orMerge_says : ∀ {t : Tree SV} {r : Nat → D}, Says U (orMerge t) K w r → Says U t K w r := by
  intro t
  induction t with
  | ret x => intro r h; exact h
  | ite c t e iht ihe =>
    intro r h
    have h1 := orLeaf_says h
    unfold Says at h1 ⊢
    rw [sat_ite] at h1 ⊢
    exact ⟨fun hc => iht (h1.1 hc), fun hc => ihe (h1.2 hc)⟩
  | all i t _ => intro r h; exact h
  | asm c t _ => intro r h; exact h
  | chk c t ih => intro r h; exact ⟨h.1, ih h.2⟩
  | bad => intro r h; exact h

/-- The walk of 'f', made once, its leaves joined. -/
theorem memoOr_ok (hcf : CallsOk U P cf) (f : FuncId) (ps : List Pt) : EntryOk U P f (memoRun ps (orMerge (resT (cf f (ptGo 0 ps) cx0)))) :=
  entry_ok fun _ _ _ _ _ hd h => closed_ok hcf hd (orMerge_says h)
end
end Go.Sx
