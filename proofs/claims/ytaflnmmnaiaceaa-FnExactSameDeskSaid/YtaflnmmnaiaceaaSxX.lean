/-
  Sx, part X: contracts of the functions without a text: roots, bits.
-/
import Derived.Test.YtaflnmmnaiaceaaSxV
namespace Go.Sx
open Ieee
open E (mk1 mk2 mkIte mk1_ev mk2_ev mkIte_ev)

/-- A function of the program that has no text: its row in the model. -/
structure ExtAt (P : Program) (f : FuncId) (row : Array Value → Sem Value) : Prop where
  at_ : ∃ fn, P.funcs[f]? = some fn ∧ (fn.name == "runtime.NumGoroutine") = false ∧ fn.body.isNone = true ∧ (Extern.findNext fn).isNone = true ∧ Extern.find fn = some row

section
variable {U : Nat → D → D} {r : Nat → D} {g : Gh} {L : Nat → Prop} {c : Cx} {w : World} {P : Program} {K : Value → World → Prop}

theorem ext_goal {f : FuncId} {row : Array Value → Sem Value} (h : ExtAt P f row) {vs : Array Value} {v : Value} {w' : World} (hrun : (row vs).run P w = .ok v w') (hK : K v w') : CallGoal P f vs w K := by
  obtain ⟨fn, h1, h2, h3, h4, h5⟩ := h.at_
  have h4 : Extern.findNext fn = none := by
    cases hx : Extern.findNext fn with
    | none => rfl
    | some x => rw [hx] at h4; cases h4
  have : (callFunc f vs).run P w = .ok (.value v) w' := by
    unfold callFunc
    simp only [Sem.run_bind, run_program, Result.andThen_ok, h1, h2, Bool.false_eq_true, if_false, h3, if_true, run_mark, h4, h5, hrun]
    rfl
  unfold CallGoal
  rw [this]
  exact hK

def sqrtRun : List SV → Cx → Tree (SV × Cx)
  | [.flt .f64 a], c => .ret (.flt .f64 (mk1 .sqrt a), c)
  | _, _ => .bad

theorem one_arg {s : SV} {vs : Array Value} (h : SV.denL U r g L [s] vs.toList) : ∃ v, vs = #[v] ∧ s.den U r g L v := by
  obtain ⟨l⟩ := vs
  match l, h with
  | [v], h => simp only [SV.denL] at h; exact ⟨v, rfl, h.1⟩
  | [], h => simp [SV.denL] at h
  | a :: b :: l, h => simp [SV.denL] at h

theorem sqrt_entry {f : FuncId} (h : ExtAt P f Extern.MathSqrt.sqrt) : EntryOk U P f sqrtRun := by
  intro args c L r g w vs K hh hp hd hs
  unfold sqrtRun at hs
  split at hs
  · rename_i a
    obtain ⟨v, rfl, hv⟩ := one_arg hd
    simp only [SV.den] at hv
    obtain ⟨b, rfl, hb1, hb2⟩ := hv
    have hsq := sqrt_cn b
    rw [hb2] at hsq
    cases hr : FloatKind.f64.format.sqrt b with
    | some x =>
      have e : Extern.MathSqrt.sqrt #[.float .f64 b] = pure (.float .f64 x) := by
        show (match FloatKind.f64.format.sqrt b with | some r => (pure (Value.float .f64 r) : Sem Value) | none => do pure (Value.float .f64 (← choose (.nanBits .f64 b b)))) = _
        rw [hr]
      refine ext_goal h (v := .float .f64 x) (w' := w) (by rw [e]; rfl) ?_
      refine hs g _ w (Ext.refl hh hp) ?_
      simp only [SV.den, mk1_ev, O1.ev]
      refine ⟨x, rfl, FloatKind.f64.format.sqrt_lt hr, ?_⟩
      show cn .f64 x = Fl.sqrt (a.ev U r).toF
      rw [hsq, hr]
      exact cn_of_not (map_write_not_nan (fun _ hd => root_not_nan hd) hr)
    | none =>
      obtain ⟨h1, h2, h3⟩ := nan_drawn (.nanBits .f64 b b) .f64 (.inl ⟨b, b, rfl⟩) (w.tape w.drawn (.nanBits .f64 b b))
      have e : Extern.MathSqrt.sqrt #[.float .f64 b] = (do pure (.float .f64 (← choose (.nanBits .f64 b b)))) := by
        show (match FloatKind.f64.format.sqrt b with | some r => (pure (Value.float .f64 r) : Sem Value) | none => do pure (Value.float .f64 (← choose (.nanBits .f64 b b)))) = _
        rw [hr]
      refine ext_goal h (v := .float .f64 ((Question.nanBits .f64 b b).cut (w.tape w.drawn (.nanBits .f64 b b)))) (w' := { w with drawn := w.drawn + 1 }) (by rw [e]; simp [h1]) ?_
      refine hs g _ _ (ext_same hh hp ⟨rfl, rfl, rfl, rfl⟩) ?_
      simp only [SV.den, mk1_ev, O1.ev]
      refine ⟨_, rfl, h2, ?_⟩
      rw [h3]
      show none = Fl.sqrt (a.ev U r).toF
      rw [hsq, hr]
  · exact hs.elim

def bitsRun (k : FloatKind) : List SV → Cx → Tree (SV × Cx)
  | [.flt k' a], c => if k = k' then
      (match look (.o2 (.feq k) a a) c.pc with
      | some true => .ret (.int (ukOf k) (mk1 .bits a), c)
      | _ => .ret (.fb k a, c))
    else .bad
  | _, _ => .bad

def fromRun (k : FloatKind) : List SV → Cx → Tree (SV × Cx)
  | [.fb k' a], c => if k = k' then .ret (.flt k a, c) else .bad
  | [.int k' a], c => if ukOf k = k' then
      br c (mk2 .ile (.i 0) a) (fun c => br c (mk2 .ilt a (.i (2 ^ k.format.width : Nat))) (fun c => .ret (.flt k (mk1 (.ofBits k) a), c)) (fun _ => .bad)) (fun _ => .bad)
    else .bad
  | _, _ => .bad

def bitsRow : FloatKind → Array Value → Sem Value
  | .f32 => Extern.MathFloatBits.float32bits
  | .f64 => Extern.MathFloatBits.float64bits
def fromRow : FloatKind → Array Value → Sem Value
  | .f32 => Extern.MathFloatBits.float32frombits
  | .f64 => Extern.MathFloatBits.float64frombits

theorem self_eq {k : FloatKind} {b : Nat} {x : Fl} (hx : cn k b = x) (h : Fl.eq k x x = true) : x = some b := by
  cases hn : isNanW k b with
  | true => rw [cn_of_nan hn] at hx; subst hx; cases h
  | false => rw [cn_of_not hn] at hx; exact hx.symm

theorem bits_entry {k : FloatKind} {f : FuncId} (h : ExtAt P f (bitsRow k)) : EntryOk U P f (bitsRun k) := by
  intro args c L r g w vs K hh hp hd hs
  unfold bitsRun at hs
  split at hs
  · rename_i k' a
    split at hs
    · rename_i hk
      subst hk
      obtain ⟨v, rfl, hv⟩ := one_arg hd
      simp only [SV.den] at hv
      obtain ⟨b, rfl, hb1, hb2⟩ := hv
      have hrun : (bitsRow k #[.float k b]).run P w = .ok (.int (ukOf k) b) w := by cases k <;> rfl
      refine ext_goal h hrun ?_
      split at hs
      · rename_i hl
        have hl := look_ok hp hl
        refine hs g _ w (Ext.refl hh hp) ?_
        simp only [SV.den, mk1_ev, O1.ev]
        have := self_eq hb2 (by simpa [E.ev, O2.ev, D.toB_b] using hl)
        rw [this]; rfl
      · refine hs g _ w (Ext.refl hh hp) ?_
        simp only [SV.den]
        exact ⟨b, rfl, hb1, hb2⟩
    · exact hs.elim
  · exact hs.elim

theorem from_entry {k : FloatKind} {f : FuncId} (h : ExtAt P f (fromRow k)) : EntryOk U P f (fromRun k) := by
  intro args c L r g w vs K hh hp hd hs
  unfold fromRun at hs
  have hrun : ∀ n : Int, (fromRow k #[.int (ukOf k) n]).run P w = .ok (.float k n.toNat) w := by intro n; cases k <;> rfl
  split at hs
  · rename_i k' a
    split at hs
    · rename_i hk
      subst hk
      obtain ⟨v, rfl, hv⟩ := one_arg hd
      simp only [SV.den] at hv
      obtain ⟨b, rfl, hb1, hb2⟩ := hv
      refine ext_goal h (hrun b) ?_
      refine hs g _ w (Ext.refl hh hp) ?_
      simp only [SV.den]
      exact ⟨b, rfl, hb1, hb2⟩
    · exact hs.elim
  · rename_i k' a
    split at hs
    · rename_i hk
      subst hk
      obtain ⟨v, rfl, hv⟩ := one_arg hd
      simp only [SV.den] at hv
      subst hv
      refine ext_goal h (hrun _) ?_
      obtain ⟨pc, hp', hs | hs⟩ := br_sat hp hs
      · obtain ⟨pc', hp'', hs2 | hs2⟩ := br_sat (c := { c with pc := pc }) hp' hs.2
        · refine hs2.2 g _ w (Ext.refl hh hp |>.mint (c'' := { c with pc := pc' }) rfl (Nat.le_refl _) hp'') ?_
          have h0 : (0 : Int) ≤ (a.ev U r).toI := by have := hs.1; rw [mk2_ev] at this; exact of_decide_eq_true this
          have h1 : (a.ev U r).toI < (2 ^ k.format.width : Nat) := by have := hs2.1; rw [mk2_ev] at this; exact of_decide_eq_true this
          simp only [SV.den, mk1_ev, O1.ev]
          exact ⟨_, rfl, by omega, rfl⟩
        · exact hs2.2.elim
      · exact hs.2.elim
    · exact hs.elim
  · exact hs.elim
end
end Go.Sx
