/-
  Sx, part T: a walk's tree put in another's place; the float's sameness as one word.
-/
import Derived.Test.YtaflnmmnaiaceaaSxS
namespace Go.Sx
open E (mk1 mk2 mkIte mk1_ev mk2_ev mkIte_ev)

section
variable {U : Nat → D → D} {r : Nat → D} {g : Gh} {L : Nat → Prop} {c : Cx} {w w' : World} {P : Program} {cf : FuncId → List SV → Cx → Tree (SV × Cx)} {K : Value → World → Prop}

/-! ### Sameness of floats -/

def sameTree (k : FloatKind) (one : Nat) : Tree SV :=
  .ite (.o2 (.feq k) (.v 0) (.v 0))
    (.ite (.o2 (.feq k) (.v 1) (.v 1))
      (.ite (.o2 (.feq k) (.v 0) (.f (some 0)))
        (.ite (.o2 (.feq k) (.v 1) (.f (some 0)))
          (.chk (.o2 .fsame (.v 1000) (.o2 (.fdiv k) (.f (some one)) (.v 0))) (.chk (.o2 .fsame (.v 1001) (.o2 (.fdiv k) (.f (some one)) (.v 1)))
            (.ret (.bool (.o2 .beq (.o2 (.flt k) (.f (some 0)) (.v 1000)) (.o2 (.flt k) (.f (some 0)) (.v 1001)))))))
          (.ret (.bool (.o2 (.feq k) (.v 0) (.v 1)))))
        (.ret (.bool (.o2 (.feq k) (.v 0) (.v 1)))))
      (.ret (.bool (.b false))))
    (.ret (.bool (.o1 .not (.o2 (.feq k) (.v 1) (.v 1)))))

def sameAns : Tree SV := .ret (.bool (.o2 .fsame (.v 0) (.v 1)))

theorem sat_ite {α : Type} {U : Nat → D → D} {Q : (Nat → D) → α → Prop} {r : Nat → D} {c : E} {t e : Tree α} : (Tree.ite c t e).sat U Q r ↔ (((c.ev U r).toB = true → t.sat U Q r) ∧ ((c.ev U r).toB = false → e.sat U Q r)) := by
  simp only [Tree.sat]
  cases h : (c.ev U r).toB <;> simp

theorem sat_ret {α : Type} {U : Nat → D → D} {Q : (Nat → D) → α → Prop} {r : Nat → D} {a : α} : (Tree.ret a).sat U Q r ↔ Q r a := Iff.rfl

theorem zeros64 : (Fl.lt .f64 (some 0) (Fl.div .f64 (some 4607182418800017408) (some 0)) = true) ∧ (Fl.lt .f64 (some 0) (Fl.div .f64 (some 4607182418800017408) (some 9223372036854775808)) = false) := by decide +kernel

theorem same_pure {x y : Fl} (hx : Wf .f64 x) (hy : Wf .f64 y) :
    (if Fl.eq .f64 x x = true then if Fl.eq .f64 y y = true then if Fl.eq .f64 x (some 0) = true then if Fl.eq .f64 y (some 0) = true then
        (Fl.lt .f64 (some 0) (Fl.div .f64 (some 4607182418800017408) x) == Fl.lt .f64 (some 0) (Fl.div .f64 (some 4607182418800017408) y)) else Fl.eq .f64 x y else Fl.eq .f64 x y else false else !Fl.eq .f64 y y) = (x == y) := by
  rw [feq_self hx, feq_self hy]
  cases x with
  | none => cases y <;> rfl
  | some a =>
    cases y with
    | none => rfl
    | some b =>
      simp only [Option.isSome, if_true]
      have hz := zeros64
      have := feq_iff hx hy
      have ne : (rungOf .f64 a ≠ 0 ∨ rungOf .f64 b ≠ 0) → Fl.eq .f64 (some a) (some b) = (some a == some b) := by
        intro hn
        cases hc : Fl.eq .f64 (some a) (some b)
        · rw [hc] at this
          have : a ≠ b := fun h' => by simp [h'] at this
          simpa using this
        · rcases this.1 hc with rfl | h'
          · simp
          · exact absurd h' (by omega)
      split
      · rename_i ha
        have ha := (feq_zero hx).1 ha
        split
        · rename_i hb
          have hb := (feq_zero hy).1 hb
          have hs : FloatKind.f64.format.signWeight = 9223372036854775808 := by decide +kernel
          rcases zero_word hx ha with rfl | rfl <;> rcases zero_word hy hb with rfl | rfl
          · simp
          · rw [hs, hz.1, hz.2]; decide
          · rw [hs, hz.1, hz.2]; decide
          · simp
        · rename_i hb
          exact ne (.inr fun h' => hb ((feq_zero hy).2 h'))
      · rename_i ha
        exact ne (.inl fun h' => ha ((feq_zero hx).2 h'))

theorem same_says {r : Nat → D} {K : Value → World → Prop} {w : World} (hp : PtOk U [.one (.f .f64), .one (.f .f64)] r) (h : Says U sameAns K w r) : Lets U K w 1000 r (sameTree .f64 4607182418800017408) := by
  obtain ⟨g, L, vs, hd⟩ := hp
  have hw : Wf .f64 (r 0).toF ∧ Wf .f64 (r 1).toF := by
    match vs, hd with
    | [a, b], hd =>
      simp only [ptGo, skSV, SV.denL, SV.den, E.ev] at hd
      obtain ⟨⟨x, _, hx⟩, ⟨y, _, hy⟩, _⟩ := hd
      exact ⟨⟨x, hx⟩, ⟨y, hy⟩⟩
    | [], hd => simp [ptGo, SV.denL] at hd
    | [a], hd => simp [ptGo, SV.denL] at hd
    | a :: b :: c :: l, hd => simp [ptGo, SV.denL] at hd
  obtain ⟨hx, hy⟩ := hw
  have hs := same_pure hx hy
  unfold Says sameAns at h
  simp only [Tree.sat, SV.den, E.ev, O2.ev, D.toB_b] at h
  rw [← hs] at h
  have key : ∀ b : Bool, (if Fl.eq .f64 (r 0).toF (r 0).toF = true then if Fl.eq .f64 (r 1).toF (r 1).toF = true then if Fl.eq .f64 (r 0).toF (some 0) = true then if Fl.eq .f64 (r 1).toF (some 0) = true then
        (Fl.lt .f64 (some 0) (Fl.div .f64 (some 4607182418800017408) (r 0).toF) == Fl.lt .f64 (some 0) (Fl.div .f64 (some 4607182418800017408) (r 1).toF)) else Fl.eq .f64 (r 0).toF (r 1).toF else Fl.eq .f64 (r 0).toF (r 1).toF else false else !Fl.eq .f64 (r 1).toF (r 1).toF) = b →
      ∀ g' L' v w', Frm (fun _ => False) w w' → SV.den U r g' L' (.bool (.b b)) v → K v w' := by
    intro b hb g' L' v w' hf hv
    exact h g' L' v w' hf (by rw [hb]; exact hv)
  clear h
  unfold sameTree
  refine ⟨rfl, fun h1 => ⟨rfl, fun h2 => ⟨rfl, fun h3 => ⟨rfl, fun h4 => ?_, fun h4 => ?_⟩, fun h3 => ?_⟩, fun h2 => ?_⟩, fun h1 => ?_⟩
  all_goals simp only [E.ev, O2.ev, D.toB_b, D.toF_f] at *
  · refine ⟨1000, _, rfl, Nat.le_refl _, rfl, 1001, _, rfl, Nat.le_refl _, rfl, ?_⟩
    rw [if_pos h1, if_pos h2, if_pos h3, if_pos h4] at key
    intro g' L' v w' hf hv
    refine key _ rfl g' L' v w' hf ?_
    simpa [SV.den, E.ev, O2.ev, Tree.upd, D.toF_f, D.toB_b] using hv
  · rw [if_pos h1, if_pos h2, if_pos h3, if_neg (by simp [h4])] at key
    exact fun g' L' v w' hf hv => key _ rfl g' L' v w' hf (by simpa [SV.den, E.ev, O2.ev, D.toB_b] using hv)
  · rw [if_pos h1, if_pos h2, if_neg (by simp [h3])] at key
    exact fun g' L' v w' hf hv => key _ rfl g' L' v w' hf (by simpa [SV.den, E.ev, O2.ev, D.toB_b] using hv)
  · rw [if_pos h1, if_neg (by simp [h2])] at key
    exact fun g' L' v w' hf hv => key _ rfl g' L' v w' hf (by simpa [SV.den, E.ev, O2.ev, D.toB_b] using hv)
  · rw [if_neg (by simp [h1])] at key
    exact fun g' L' v w' hf hv => key _ rfl g' L' v w' hf (by simpa [SV.den, E.ev, O1.ev, O2.ev, D.toB_b] using hv)

/-- SAMENESS: the law's own comparison of two floats is one word. -/
theorem same_ok (hcf : CallsOk U P cf) (f : FuncId) (hT : resT (cf f (ptGo 0 [.one (.f .f64), .one (.f .f64)]) cx0) = sameTree .f64 4607182418800017408) :
    EntryOk U P f (memoRun [.one (.f .f64), .one (.f .f64)] sameAns) :=
  swap_ok hcf f _ (by decide +kernel) fun r K w hp h => by rw [hT]; exact same_says hp h

def namesB (P : Program) : Bool := P.funcs.toList.all fun fn => !(fn.name == "runtime.NumGoroutine")
theorem names_ok (h : namesB P = true) : NamesOk P := by
  intro f fn hf
  unfold namesB at h
  rw [List.all_eq_true] at h
  have := h fn (by rw [Array.mem_toList_iff]; exact Array.mem_of_getElem? hf)
  simpa using this

/-- No table of functions. -/
def noU : Nat → D → D := fun _ d => d
end
end Go.Sx
