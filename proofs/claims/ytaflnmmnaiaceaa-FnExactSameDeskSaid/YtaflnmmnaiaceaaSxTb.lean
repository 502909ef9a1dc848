/-
  Sx, part Tb: sameness of floats of 32 bits, told by their bits.
-/
import Derived.Test.YtaflnmmnaiaceaaSxT
namespace Go.Sx
open E (mk1 mk2 mkIte mk1_ev mk2_ev mkIte_ev)

def specSame : Tree SV :=
  .ite (.o2 (.feq .f32) (.v 0) (.v 0))
    (.ite (.o2 (.feq .f32) (.v 1) (.v 1)) (.ret (.bool (.o2 .ieq (.o1 (.wrap .i64) (.o1 .bits (.v 0))) (.o1 (.wrap .i64) (.o1 .bits (.v 1))))))
      (.ret (.bool (.o2 .ieq (.o1 (.wrap .i64) (.o1 .bits (.v 0))) (.i 2143289344)))))
    (.ite (.o2 (.feq .f32) (.v 1) (.v 1)) (.ret (.bool (.o2 .ieq (.i 2143289344) (.o1 (.wrap .i64) (.o1 .bits (.v 1)))))) (.ret (.bool (.b true))))

def implSame : Tree SV :=
  .ite (.o2 (.feq .f32) (.v 0) (.v 0))
    (.ite (.o2 (.feq .f32) (.v 1) (.v 1)) (.ret (.bool (.o2 .ieq (.o1 .bits (.v 0)) (.o1 .bits (.v 1))))) (.ret (.bool (.b false))))
    (.ret (.bool (.o1 .not (.o2 (.feq .f32) (.v 1) (.v 1)))))

theorem wf32 {x : Fl} (h : Wf .f32 x) : x = none ∨ ∃ a : Nat, x = some a ∧ a < 4294967296 ∧ a ≠ 2143289344 := by
  obtain ⟨b, hb, hc⟩ := h
  have hb : b < 4294967296 := hb
  cases x with
  | none => exact .inl rfl
  | some a =>
    right
    refine ⟨a, rfl, ?_⟩
    by_cases he : b = 2143289344
    · subst he
      have : cn .f32 2143289344 = none := by decide +kernel
      rw [this] at hc; cases hc
    · unfold cn at hc
      split at hc
      · cases hc
      · cases hc; exact ⟨hb, he⟩

theorem wrap64 {a : Nat} (h : a < 4294967296) : IntKind.i64.wrap ((a : Nat) : Int) = a := by
  simp [IntKind.wrap, IntKind.bits, IntKind.signed]; omega

section
variable {U : Nat → D → D} {P : Program} {cf : FuncId → List SV → Cx → Tree (SV × Cx)}

theorem wf_of {r : Nat → D} (hp : PtOk U [.one (.f .f32), .one (.f .f32)] r) : Wf .f32 (r 0).toF ∧ Wf .f32 (r 1).toF := by
  obtain ⟨g, L, vs, hd⟩ := hp
  match vs, hd with
  | [a, b], hd =>
    simp only [ptGo, skSV, SV.denL, SV.den, E.ev] at hd
    obtain ⟨⟨x, _, hx⟩, ⟨y, _, hy⟩, _⟩ := hd
    exact ⟨⟨x, hx⟩, ⟨y, hy⟩⟩
  | [], hd => simp [ptGo, SV.denL] at hd
  | [a], hd => simp [ptGo, SV.denL] at hd
  | a :: b :: c :: l, hd => simp [ptGo, SV.denL] at hd

theorem spec_says {r : Nat → D} {K : Value → World → Prop} {w : World} (hp : PtOk U [.one (.f .f32), .one (.f .f32)] r) (h : Says U sameAns K w r) : Lets U K w 1000 r specSame := by
  obtain ⟨hx, hy⟩ := wf_of hp
  have fx := feq_self hx
  have fy := feq_self hy
  unfold Says sameAns at h
  simp only [Tree.sat, SV.den, E.ev, O2.ev, D.toB_b] at h
  have key : ∀ b : Bool, ((r 0).toF == (r 1).toF) = b → ∀ g' L' v w', Frm (fun _ => False) w w' → SV.den U r g' L' (.bool (.b b)) v → K v w' := by
    intro b hb g' L' v w' hf hv
    exact h g' L' v w' hf (by rw [hb]; exact hv)
  unfold specSame
  rcases wf32 hx with ex | ⟨a, ex, ha, ha'⟩ <;> rcases wf32 hy with ey | ⟨b, ey, hb, hb'⟩
  all_goals
    rw [ex] at fx key
    rw [ey] at fy key
    refine ⟨rfl, fun h1 => ⟨rfl, fun h2 => ?_, fun h2 => ?_⟩, fun h1 => ⟨rfl, fun h2 => ?_, fun h2 => ?_⟩⟩
    all_goals simp only [E.ev, O2.ev, D.toB_b, ex, ey, fx, fy] at h1 h2
    all_goals first | (simp at h1; done) | (simp at h2; done) | skip
    all_goals
      intro g' L' v w' hf hv
      refine key _ rfl g' L' v w' hf ?_
      simp only [SV.den, E.ev, O1.ev, O2.ev, D.toB_b, D.toI_i, ex, ey, Fl.bits] at hv ⊢
      rw [hv]
      try rw [wrap64 ha]
      try rw [wrap64 hb]
      congr 1
      first
        | done
        | rfl
        | (rw [Bool.eq_iff_iff, beq_iff_eq, beq_iff_eq, Option.some.injEq]; omega)
        | (rw [Bool.eq_iff_iff, beq_iff_eq, beq_iff_eq]; exact ⟨fun h => absurd h (by omega), fun h => by cases h⟩)

theorem impl_says {r : Nat → D} {K : Value → World → Prop} {w : World} (hp : PtOk U [.one (.f .f32), .one (.f .f32)] r) (h : Says U sameAns K w r) : Lets U K w 1000 r implSame := by
  obtain ⟨hx, hy⟩ := wf_of hp
  have fx := feq_self hx
  have fy := feq_self hy
  unfold Says sameAns at h
  simp only [Tree.sat, SV.den, E.ev, O2.ev, D.toB_b] at h
  have key : ∀ b : Bool, ((r 0).toF == (r 1).toF) = b → ∀ g' L' v w', Frm (fun _ => False) w w' → SV.den U r g' L' (.bool (.b b)) v → K v w' := by
    intro b hb g' L' v w' hf hv
    exact h g' L' v w' hf (by rw [hb]; exact hv)
  unfold implSame
  rcases wf32 hx with ex | ⟨a, ex, ha, ha'⟩ <;> rcases wf32 hy with ey | ⟨b, ey, hb, hb'⟩
  all_goals
    rw [ex] at fx key
    rw [ey] at fy key
    refine ⟨rfl, fun h1 => ⟨rfl, fun h2 => ?_, fun h2 => ?_⟩, fun h1 => ?_⟩
    all_goals simp only [E.ev, O2.ev, D.toB_b, ex, fx] at h1
    all_goals try simp only [E.ev, O2.ev, D.toB_b, ey, fy] at h2
    all_goals first | (simp at h1; done) | (simp at h2; done) | skip
    all_goals
      intro g' L' v w' hf hv
      refine key _ rfl g' L' v w' hf ?_
      simp only [SV.den, E.ev, O1.ev, O2.ev, D.toB_b, D.toI_i, ex, ey, fx, fy, Fl.bits] at hv ⊢
      rw [hv]
      congr 1
      first
        | done
        | rfl
        | (rw [Bool.eq_iff_iff, beq_iff_eq, beq_iff_eq, Option.some.injEq]; omega)
        | (rw [Bool.eq_iff_iff, beq_iff_eq, beq_iff_eq]; exact ⟨fun h => absurd h (by omega), fun h => by cases h⟩)

theorem specSame_ok (hcf : CallsOk U P cf) (f : FuncId) (hT : resT (cf f (ptGo 0 [.one (.f .f32), .one (.f .f32)]) cx0) = specSame) : EntryOk U P f (memoRun [.one (.f .f32), .one (.f .f32)] sameAns) :=
  swap_ok hcf f _ (by decide +kernel) fun r K w hp h => by rw [hT]; exact spec_says hp h
theorem implSame_ok (hcf : CallsOk U P cf) (f : FuncId) (hT : resT (cf f (ptGo 0 [.one (.f .f32), .one (.f .f32)]) cx0) = implSame) : EntryOk U P f (memoRun [.one (.f .f32), .one (.f .f32)] sameAns) :=
  swap_ok hcf f _ (by decide +kernel) fun r K w hp h => by rw [hT]; exact impl_says hp h
end
end Go.Sx
