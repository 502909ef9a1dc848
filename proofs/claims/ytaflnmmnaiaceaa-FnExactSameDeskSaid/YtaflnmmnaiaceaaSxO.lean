/-
  Sx, part O: whole functions.
-/
import Derived.Test.YtaflnmmnaiaceaaSxNb
namespace Go.Sx
open E (mk1 mk2 mkIte mk1_ev mk2_ev mkIte_ev)

/-- How a walk leaves a piece of code. -/
inductive Ex where
  | normal
  | exit (id : Nat)
  | ret

def Ex.out : Ex → Exit
  | .normal => .normal
  | .exit id => .exit id
  | .ret => .ret

/-- The results of a function. -/
def resS (P : Program) (S : St) : List ResultVar → Option (List SV)
  | [] => some []
  | .tmp t :: l => (resS P S l).map (S.tmps.get t :: ·)
  | .cell x t :: l =>
    match loadP P S.c t (S.tmps.get x), resS P S l with
    | some s, some ss => some (s :: ss)
    | _, _ => none

def oneOf (ss : List SV) : SV :=
  match ss with
  | [s] => s
  | ss => .tup ss

def resX (P : Program) (fn : Func) (x : Ex × St) : Tree (SV × Cx) :=
  match x.1 with
  | .exit _ => .bad
  | _ => match resS P x.2 fn.results.toList with
    | some ss => .ret (oneOf ss, x.2.c)
    | none => .bad

def argGo : Nat → List SV → List (Nat × SV)
  | _, [] => []
  | i, s :: l => (i, s) :: argGo (i + 1) l

/-- The slots as a call begins. -/
def argTm (args : List SV) (n : Nat) : Tm := ⟨args.length + (n - args.length), argGo 0 args⟩

theorem argGo_get : ∀ (l : List SV) (i t : Nat), lkp t (argGo i l) = if i ≤ t then l.getD (t - i) .any else .any := by
  intro l
  induction l with
  | nil => intro i t; simp [argGo, lkp]
  | cons s l ih =>
    intro i t
    simp only [argGo, lkp]
    cases hb : Nat.beq i t with
    | true =>
      have := Nat.eq_of_beq_eq_true hb
      subst this
      simp
    | false =>
      have hne : i ≠ t := fun e => by subst e; rw [Nat.beq_refl] at hb; cases hb
      simp only [cond_false, ih]
      by_cases hle : i ≤ t
      · rw [if_pos hle, if_pos (by omega), show t - i = (t - (i + 1)) + 1 by omega]; rfl
      · rw [if_neg hle, if_neg (by omega)]

theorem argTm_get (args : List SV) (n t : Nat) : (argTm args n).get t = args.getD t .any := by
  unfold argTm Tm.get
  rw [argGo_get]; simp

abbrev Contracts := FuncId → Option (List SV → Cx → Tree (SV × Cx))

/-- A call: by its contract, or by its text. -/
def callX (P : Program) (ct : Contracts) (ex : Code → St → Tree (Ex × St)) (f : FuncId) (args : List SV) (c : Cx) : Tree (SV × Cx) :=
  match ct f with
  | some run => run args c
  | none =>
    match P.funcs[f]? with
    | some fn =>
      match fn.body with
      | some body => (ex body ⟨argTm args fn.ntmps, c⟩).bind (resX P fn)
      | none => .bad
    | none => .bad

def loopX (ex : St → Tree (Ex × St)) : Nat → St → Tree (Ex × St)
  | 0, _ => .bad
  | n + 1, S => (ex S).bind fun x =>
    match x.1 with
    | .normal => loopX ex n x.2
    | e => .ret (e, x.2)

def exec (P : Program) (ct : Contracts) : Nat → Code → St → Tree (Ex × St)
  | 0, _, _ => .bad
  | n + 1, code, S =>
    match code with
    | .skip => .ret (.normal, S)
    | .region _ ops draw => (regionX P (callX P ct (exec P ct n)) ops draw S).bind fun S' => .ret (.normal, S')
    | .seq x y => (exec P ct n x S).bind fun z =>
      match z.1 with
      | .normal => exec P ct n y z.2
      | e => .ret (e, z.2)
    | .cond x t f =>
      match evS S.tmps x with
      | .bool e => br S.c e (fun c => exec P ct n t ⟨S.tmps, c⟩) (fun c => exec P ct n f ⟨S.tmps, c⟩)
      | _ => .bad
    | .block id b => (exec P ct n b S).bind fun z =>
      match z.1 with
      | .exit j => .ret (if j = id then .normal else .exit j, z.2)
      | e => .ret (e, z.2)
    | .loop b => loopX (exec P ct n b) n S
    | .scope b => exec P ct n b S
    | .exit id => .ret (.exit id, S)
    | .ret => .ret (.ret, S)
    | _ => .bad

section
variable {U : Nat → D → D} {L : Nat → Prop} {r r' : Nat → D} {g g' : Gh} {c c' : Cx} {w w' : World} {P : Program} {a : Act} {S : St} {Q : Exit → Act → World → Prop}

def EPost (U : Nat → D → D) (L : Nat → Prop) (r : Nat → D) (g : Gh) (c : Cx) (w : World) (Q : Exit → Act → World → Prop) (r' : Nat → D) (x : Ex × St) : Prop :=
  ∀ g' a' w', Ext U L r g c w r' g' x.2.c w' → Slots U r' g' (Lx L c.h x.2.c.h) x.2.tmps a' → Q x.1.out a' w'

theorem EPost.shift {r'' : Nat → D} {x : Ex × St} (e : Ext U L r g c w r' g' c' w') (h : EPost U L r g c w Q r'' x) : EPost U (Lx L c.h c'.h) r' g' c' w' Q r'' x := by
  intro g2 a2 w2 e2 s2
  refine h g2 a2 w2 (e.trans e2) ?_
  rw [← Lx_trans e.len e2.len]; exact s2

theorem EPost.here {e : Ex} (h : EPost U L r g S.c w Q r (e, S)) (hh : HeapDen U r g L S.c.h w) (hp : PcOk U r S.c.pc) (hs : Slots U r g L S.tmps a) : Q e.out a w :=
  h g a w (Ext.refl hh hp) (by rw [Lx_self]; exact hs)

/-- Code that is walked rightly. -/
def RunsOk (U : Nat → D → D) (P : Program) (ex : Code → St → Tree (Ex × St)) : Prop :=
  ∀ (code : Code) (S : St) (L : Nat → Prop) (r : Nat → D) (g : Gh) (a : Act) (w : World) (Q : Exit → Act → World → Prop),
    HeapDen U r g L S.c.h w → PcOk U r S.c.pc → Slots U r g L S.tmps a → (ex code S).sat U (EPost U L r g S.c w Q) r → code.wp P Q a w

/-- Contracts that the model bears out. -/
def ContractsOk (U : Nat → D → D) (P : Program) (ct : Contracts) : Prop :=
  ∀ (f : FuncId) (run : List SV → Cx → Tree (SV × Cx)), ct f = some run → ∀ (args : List SV) (c : Cx) (L : Nat → Prop) (r : Nat → D) (g : Gh) (w : World) (vs : Array Value) (K : Value → World → Prop),
    HeapDen U r g L c.h w → PcOk U r c.pc → SV.denL U r g L args vs.toList → (run args c).sat U (Post U L r g c w K) r → CallGoal P f vs w K

/-- No function has the one name that the model's call looks at. -/
def NamesOk (P : Program) : Prop := ∀ (f : FuncId) (fn : Func), P.funcs[f]? = some fn → (fn.name == "runtime.NumGoroutine") = false

theorem callGoal_of {f : FuncId} {fn : Func} {body : Code} {vs : Array Value} {K : Value → World → Prop} (hn : NamesOk P) (hf : P.funcs[f]? = some fn) (hb : fn.body = some body)
    (h : Calls P f vs w fun e w' => ∃ v, e = .returned v ∧ K v w') : CallGoal P f vs w K := by
  have hrun : (callFunc f vs).run P w = .ok (.enter f vs) w := by
    unfold callFunc
    simp only [Sem.run_bind, run_program, Result.andThen_ok, hf, hn f fn hf, Bool.false_eq_true, if_false, hb, Option.isNone_some]
    rfl
  unfold CallGoal
  rw [hrun]
  exact h

def resOne (tmps : Array Value) : ResultVar → Sem Value
  | .tmp t => pure (tmps.getD t undef)
  | .cell x t => do loadVar t (← asAddr (tmps.getD x undef))

theorem run_mapM_results {tmps : Array Value} (hh : HeapDen U r g L S.c.h w) (hs : ∀ t, (S.tmps.get t).den U r g L (tmps.getD t undef)) : ∀ {l : List ResultVar} {ss : List SV}, resS P S l = some ss →
    ∃ vs : List Value, (l.mapM (resOne tmps)).run P w = .ok vs w ∧ SV.denL U r g L ss vs := by
  intro l
  induction l with
  | nil => intro ss h; cases h; exact ⟨[], rfl, by simp [SV.denL]⟩
  | cons x l ih =>
    intro ss h
    cases x with
    | tmp t =>
      simp only [resS, Option.map_eq_some_iff] at h
      obtain ⟨ss', h1, rfl⟩ := h
      obtain ⟨vs, h2, h3⟩ := ih h1
      refine ⟨tmps.getD t undef :: vs, ?_, by simp only [SV.denL]; exact ⟨hs t, h3⟩⟩
      rw [List.mapM_cons]
      simp only [resOne, Sem.run_bind, Sem.run_pure, Result.andThen_ok, h2]
    | cell x t =>
      simp only [resS] at h
      split at h
      · rename_i s ss' h0 h1
        cases h
        obtain ⟨vs, h2, h3⟩ := ih h1
        obtain ⟨ad, v, h4, h5, h6⟩ := loadP_ok (w := w) hh (hs x) h0
        refine ⟨v :: vs, ?_, by simp only [SV.denL]; exact ⟨h6, h3⟩⟩
        have ha : (asAddr (tmps.getD x undef)).run P w = .ok ad w := by rw [h4]; rfl
        have hr : (resOne tmps (.cell x t)).run P w = .ok v w := by
          unfold resOne; rw [Sem.run_bind, ha]; exact h5
        rw [List.mapM_cons]
        simp only [Sem.run_bind, hr, Sem.run_pure, Result.andThen_ok, h2]
      · cases h

theorem results_eq (fn : Func) (tmps : Array Value) : results fn tmps = (do let vs ← fn.results.mapM (resOne tmps); pure (if h : vs.size = 1 then vs[0] else .tuple vs)) := by
  unfold results
  congr 2

theorem results_run {fn : Func} {tmps : Array Value} {ss : List SV} (hh : HeapDen U r g L S.c.h w) (hs : ∀ t, (S.tmps.get t).den U r g L (tmps.getD t undef)) (h : resS P S fn.results.toList = some ss) :
    ∃ v, (results fn tmps).run P w = .ok v w ∧ (oneOf ss).den U r g L v := by
  obtain ⟨vs, h1, h2⟩ := run_mapM_results (tmps := tmps) hh hs h
  rw [results_eq, Array.mapM_eq_mapM_toList, Sem.run_bind, Sem.run_map, h1]
  simp only [Result.andThen_ok, Sem.run_pure]
  have hl := SV.denL_length U r g L h2
  refine ⟨_, rfl, ?_⟩
  unfold oneOf
  split
  · rename_i s
    match vs, h2, hl with
    | [v], h2, _ => simp only [SV.denL] at h2; exact h2.1
  · rename_i hne
    have : ¬ vs.toArray.size = 1 := by
      intro h1
      match ss, hl, hne with
      | [s], _, hne => exact hne s rfl
      | [], hl, _ => simp at hl h1; omega
      | _ :: _ :: _, hl, _ => simp at hl h1; omega
    rw [dif_neg this]
    exact ⟨_, rfl, h2⟩

theorem callX_ok {ct : Contracts} {ex : Code → St → Tree (Ex × St)} (hn : NamesOk P) (hct : ContractsOk U P ct) (hex : RunsOk U P ex) : CallsOk U P (callX P ct ex) := by
  intro f args c L r g w vs K hh hp hd h
  unfold callX at h
  split at h
  · rename_i run hr
    exact hct f run hr args c L r g w vs K hh hp hd h
  · split at h
    · rename_i fn hf
      split at h
      · rename_i body hb
        rw [Tree.sat_bind] at h
        refine callGoal_of hn hf hb (calls_of_wp hf hb ?_)
        have hl := SV.denL_length U r g L hd
        simp only [Array.length_toList] at hl
        refine hex body _ L r g _ w _ hh hp ?_ (Tree.sat_mono ?_ h)
        · refine ⟨rfl, by simp [argTm, hl], fun t => ?_⟩
          show SV.den U r g L ((argTm args fn.ntmps).get t) _
          rw [argTm_get]
          cases ht : args[t]? with
          | none => rw [List.getD_eq_getElem?_getD, ht]; trivial
          | some s =>
            obtain ⟨v, hv, hd'⟩ := SV.denL_get U r g L hd ht
            rw [List.getD_eq_getElem?_getD, ht, Array.getD_eq_getD_getElem?]
            have hlt : t < vs.size := by have := (List.getElem?_eq_some_iff.1 hv).1; simpa using this
            have hv' : (vs ++ Array.replicate (fn.ntmps - vs.size) undef)[t]? = some v := by
              rw [Array.getElem?_append_left hlt]; simpa using hv
            rw [hv']; exact hd'
        · intro r' x hx g' a' w' he hs
          unfold resX at hx
          have fin : ∀ {ss}, resS P x.2 fn.results.toList = some ss → Post U L r g c w K r' (oneOf ss, x.2.c) → a'.defers = [] ∧ ∃ v, (results fn a'.tmps).run P w' = .ok v w' ∧ ∃ v', Ending.returned v = Ending.returned v' ∧ K v' w' := by
            intro ss hss hpost
            obtain ⟨v, h1, h2⟩ := results_run (fn := fn) (tmps := a'.tmps) he.heap hs.at_ hss
            exact ⟨hs.defers, v, h1, v, rfl, hpost g' v w' he h2⟩
          cases hx1 : x.1 with
          | exit id => rw [hx1] at hx; exact hx.elim
          | normal =>
            rw [hx1] at hx
            dsimp only at hx
            split at hx
            · rename_i ss hss; exact fin hss hx
            · exact hx.elim
          | ret =>
            rw [hx1] at hx
            dsimp only at hx
            split at hx
            · rename_i ss hss; exact fin hss hx
            · exact hx.elim
      · exact h.elim
    · exact h.elim

theorem loopX_ok {ex : St → Tree (Ex × St)} {b : Code} (hex : ∀ (S : St) (L : Nat → Prop) (r : Nat → D) (g : Gh) (a : Act) (w : World) (Q : Exit → Act → World → Prop),
    HeapDen U r g L S.c.h w → PcOk U r S.c.pc → Slots U r g L S.tmps a → (ex S).sat U (EPost U L r g S.c w Q) r → b.wp P Q a w) :
    ∀ (n : Nat) (S : St) (L : Nat → Prop) (r : Nat → D) (g : Gh) (a : Act) (w : World) (Q : Exit → Act → World → Prop),
      HeapDen U r g L S.c.h w → PcOk U r S.c.pc → Slots U r g L S.tmps a → (loopX ex n S).sat U (EPost U L r g S.c w Q) r → Code.rounds P b Q n a w := by
  intro n
  induction n with
  | zero => intro S L r g a w Q _ _ _ h; exact h.elim
  | succ n ih =>
    intro S L r g a w Q hh hp hs h
    rw [loopX, Tree.sat_bind] at h
    rw [rounds_succ]
    refine hex S L r g a w _ hh hp hs (Tree.sat_mono ?_ h)
    intro r' x hx g' a' w' he hs'
    cases hx1 : x.1 with
    | normal =>
      rw [hx1] at hx
      exact ih x.2 (Lx L S.c.h x.2.c.h) r' g' a' w' Q he.heap he.pc hs' (Tree.sat_mono (fun _ _ hy => hy.shift he) hx)
    | exit id => rw [hx1] at hx; exact hx g' a' w' he hs'
    | ret => rw [hx1] at hx; exact hx g' a' w' he hs'

theorem exec_ok {ct : Contracts} (hm : P.follows .mixedOrders = true) (hn : NamesOk P) (hct : ContractsOk U P ct) : ∀ n, RunsOk U P (exec P ct n) := by
  intro n
  induction n with
  | zero => intro code S L r g a w Q _ _ _ h; exact h.elim
  | succ n ih =>
    intro code S L r g a w Q hh hp hs h
    cases code <;> simp only [exec] at h <;> (try exact h.elim)
    case skip => exact wp_skip (EPost.here h hh hp hs)
    case region id ops draw =>
      rw [Tree.sat_bind] at h
      refine regionX_ok hm (callX_ok hn hct ih) hh hp hs (Tree.sat_mono ?_ h)
      intro r' S' hx g' a' w' he hs'
      exact hx g' a' w' he hs'
    case seq x y =>
      rw [Tree.sat_bind] at h
      refine wp_seq (ih x S L r g a w _ hh hp hs (Tree.sat_mono ?_ h))
      intro r' z hz g' a' w' he hs'
      cases hz1 : z.1 with
      | normal =>
        rw [hz1] at hz
        exact ih y z.2 (Lx L S.c.h z.2.c.h) r' g' a' w' Q he.heap he.pc hs' (Tree.sat_mono (fun _ _ hy => hy.shift he) hz)
      | exit id => rw [hz1] at hz; exact hz g' a' w' he hs'
      | ret => rw [hz1] at hz; exact hz g' a' w' he hs'
    case cond x t f =>
      split at h
      · rename_i e he
        have hx := hs.ev x
        rw [he] at hx
        simp only [SV.den] at hx
        obtain ⟨pc, hp', h | h⟩ := sat_br hp h
        · refine wp_cond hx ?_
          rw [h.1]
          exact ih t ⟨S.tmps, { S.c with pc := pc }⟩ L r g a w Q hh hp' hs (Tree.sat_mono (fun _ _ hy => fun g' a' w' he hs' => hy g' a' w' he.pcs hs') h.2)
        · refine wp_cond hx ?_
          rw [h.1]
          exact ih f ⟨S.tmps, { S.c with pc := pc }⟩ L r g a w Q hh hp' hs (Tree.sat_mono (fun _ _ hy => fun g' a' w' he hs' => hy g' a' w' he.pcs hs') h.2)
      · exact h.elim
    case block id b =>
      rw [Tree.sat_bind] at h
      refine wp_block (ih b S L r g a w _ hh hp hs (Tree.sat_mono ?_ h))
      intro r' z hz g' a' w' he hs'
      cases hz1 : z.1 with
      | normal => rw [hz1] at hz; exact hz g' a' w' he hs'
      | exit j =>
        rw [hz1] at hz
        have := hz g' a' w' he hs'
        show Exit.inBlock id Q (.exit j) a' w'
        unfold Exit.inBlock
        dsimp only at this ⊢
        split
        · rename_i hj; rw [if_pos hj] at this; exact this
        · rename_i hj; rw [if_neg hj] at this; exact this
      | ret => rw [hz1] at hz; exact hz g' a' w' he hs'
    case loop b => exact wp_loop_rounds n (loopX_ok (fun S L r g a w Q => ih b S L r g a w Q) n S L r g a w Q hh hp hs h)
    case scope b =>
      refine wp_scope_straight (ih b S L r g a w _ hh hp hs (Tree.sat_mono ?_ h))
      intro r' z hz g' a' w' he hs'
      have := hz g' a' w' he hs'
      cases hz1 : z.1 with
      | normal => rw [hz1] at this; exact this
      | exit j => rw [hz1] at this; exact this
      | ret => rw [hz1] at this; exact this
    case exit id => exact wp_exit (EPost.here h hh hp hs)
    case ret => exact wp_ret (EPost.here h hh hp hs)

/-- THE WALK OF A CALL: by contracts, else by the text. -/
theorem calls_ok {ct : Contracts} (hm : P.follows .mixedOrders = true) (hn : NamesOk P) (hct : ContractsOk U P ct) (n : Nat) : CallsOk U P (callX P ct (exec P ct n)) :=
  callX_ok hn hct (exec_ok hm hn hct n)

end
end Go.Sx
