/-
  Sx, part Pq: loops without memory: that they end; that one does what another does.
-/
import Derived.Test.YtaflnmmnaiaceaaSxPp
namespace Go.Sx
open E (mk1 mk2 mkIte mk1_ev mk2_ev mkIte_ev)

section
variable {U : Nat → D → D} {inv : List E} {T : Tree LRes}

theorem LoopTo.unique {ds : List D} {k k' : Nat} {os os' : List D} (h : LoopTo U inv T ds k os) (h' : LoopTo U inv T ds k' os') : k = k' ∧ os = os' := by
  induction h with
  | done hI he =>
    cases h' with
    | done _ he' => rw [he] at he'; cases he'; exact ⟨rfl, rfl⟩
    | next _ he' _ => rw [he] at he'; cases he'
  | next hI he _ ih =>
    cases h' with
    | done _ he' => rw [he] at he'; cases he'
    | next _ he' h2 => rw [he] at he'; cases he'; exact ih h2

theorem LoopTo.hold {ds : List D} {k : Nat} {os : List D} (h : LoopTo U inv T ds k os) : HoldI U inv ds := by
  cases h with
  | done hI _ => exact hI
  | next hI _ _ => exact hI

/-! ### Ends -/

def subAll (m : List (Nat × E)) : List E → Option (List E)
  | [] => some []
  | e :: l => match e.sub m, subAll m l with
    | some a, some b => some (a :: b)
    | _, _ => none

theorem subAll_ev {r r' : Nat → D} {m : List (Nat × E)} (hf : Fills U r r' m) : ∀ {l l' : List E}, subAll m l = some l' → l'.map (E.ev U r) = l.map (E.ev U r') := by
  intro l
  induction l with
  | nil => intro l' h; cases h; rfl
  | cons e l ih =>
    intro l' h
    unfold subAll at h
    split at h
    · rename_i a b h1 h2
      cases h
      simp only [List.map_cons, E.sub_ev hf h1, ih h2]
    · cases h

/-- Every way of a round is sure: it goes out, or what holds at the head holds again and the measure has fallen. -/
def endsT (cnt : Nat) (inv : List E) (mu : E) : Nat → List (E × Bool) → Tree LRes → Bool
  | _, _, .ret (.done _ _) => true
  | _, pc, .ret (.next es) => Nat.beq es.length cnt && (holdAll inv es pc && (match mu.sub (numbered 0 es) with
    | some mu' => sure (mk2 .ile (.i 0) mu') pc && sure (mk2 .ilt mu' mu) pc
    | none => false))
  | m, pc, .ite c t e => c.under m && (endsT cnt inv mu m ((c, true) :: pc) t && endsT cnt inv mu m ((c, false) :: pc) e)
  | m, pc, .chk (.o2 .fsame (.v i) e) t => Nat.ble m i && (e.under m && endsT cnt inv mu (i + 1) pc t)
  | _, _, _ => false

theorem pc_under {r r' : Nat → D} {m : Nat} {pc : List (E × Bool)} (hp : PcOk U r pc) (hu : ∀ x ∈ pc, x.1.under m = true) (hr : ∀ n, n < m → r' n = r n) : PcOk U r' pc := by
  intro x hx
  rw [E.ev_under U hr (hu x hx)]
  exact hp x hx

theorem endsT_ok {cnt : Nat} {mu : E} : ∀ {t : Tree LRes} {m : Nat} {pc : List (E × Bool)} {r : Nat → D}, endsT cnt inv mu m pc t = true → PcOk U r pc → (∀ x ∈ pc, x.1.under m = true) → mu.under m = true →
    ∃ x r', evA U t r = some (x, r') ∧ (∀ n, n < m → r' n = r n) ∧ (match x with
      | .next es => es.length = cnt ∧ HoldI U inv (es.map (E.ev U r')) ∧ 0 ≤ (mu.ev U (rOf (es.map (E.ev U r')))).toI ∧ (mu.ev U (rOf (es.map (E.ev U r')))).toI < (mu.ev U r).toI
      | .done _ _ => True
      | .stuck => False) := by
  intro t
  induction t with
  | ret x =>
    intro m pc r h hp hu hm
    cases x with
    | stuck => simp [endsT] at h
    | done k os => exact ⟨_, r, rfl, fun _ _ => rfl, trivial⟩
    | next es =>
      simp only [endsT, Bool.and_eq_true] at h
      obtain ⟨h1, h2, h3⟩ := h
      split at h3
      · rename_i mu' hs
        rw [Bool.and_eq_true] at h3
        have k1 := sure_ok hp h3.1
        have k2 := sure_ok hp h3.2
        rw [mk2_ev] at k1 k2
        have k1 : (0 : Int) ≤ (mu'.ev U r).toI := of_decide_eq_true k1
        have k2 : (mu'.ev U r).toI < (mu.ev U r).toI := of_decide_eq_true k2
        have e := E.sub_ev (fills_rOf (U := U) (r := r) es) hs
        rw [e] at k1 k2
        exact ⟨_, r, rfl, fun _ _ => rfl, Nat.eq_of_beq_eq_true h1, holdAll_ok hp h2, k1, k2⟩
      · cases h3
  | ite c t e iht ihe =>
    intro m pc r h hp hu hm
    simp only [endsT, Bool.and_eq_true] at h
    obtain ⟨h1, h2, h3⟩ := h
    have hu' : ∀ b, ∀ x ∈ (c, b) :: pc, x.1.under m = true := fun b x hx => by
      rcases List.mem_cons.1 hx with rfl | hx
      · exact h1
      · exact hu x hx
    have hp' : ∀ b, (c.ev U r).toB = b → PcOk U r ((c, b) :: pc) := fun b hb x hx => by
      rcases List.mem_cons.1 hx with rfl | hx
      · exact hb
      · exact hp x hx
    simp only [evA]
    cases hc : (c.ev U r).toB with
    | true => simp only [if_true]; exact iht h2 (hp' true hc) (hu' true) hm
    | false => simp only [Bool.false_eq_true, if_false]; exact ihe h3 (hp' false hc) (hu' false) hm
  | chk c t ih =>
    intro m pc r h hp hu hm
    unfold endsT at h
    split at h
    · rename_i h'; cases h'
    · rename_i h'; cases h'
    · rename_i h'; cases h'
    · rename_i m _ pc _ _ i e t' h'
      cases h'
      simp only [Bool.and_eq_true] at h
      obtain ⟨h1, h2, h3⟩ := h
      have h1 := Nat.le_of_ble_eq_true h1
      have hlow : ∀ n, n < m → Tree.upd r i (e.ev U r) n = r n := fun n hn => by unfold Tree.upd; rw [if_neg (by omega)]
      have up : ∀ {x : E}, x.under m = true → x.under (i + 1) = true := fun {x} hx => by
        have mono : ∀ {x : E}, x.under m = true → x.under (i + 1) = true := by
          intro x
          induction x with
          | v n => intro h; simp [E.under] at h ⊢; omega
          | o1 o a iha => intro h; exact iha h
          | app n a iha => intro h; exact iha h
          | o2 o a b iha ihb => intro h; simp [E.under] at h ⊢; exact ⟨iha h.1, ihb h.2⟩
          | o3 o a b c iha ihb ihc => intro h; simp [E.under] at h ⊢; exact ⟨iha h.1, ihb h.2.1, ihc h.2.2⟩
          | _ => intro _; rfl
        exact mono hx
      obtain ⟨x, r', k1, k2, k3⟩ := ih h3 (pc_under hp hu hlow) (fun x hx => up (hu x hx)) (up hm)
      refine ⟨x, r', by simp only [evA]; exact k1, fun n hn => by rw [k2 n (by omega)]; exact hlow n hn, ?_⟩
      have : mu.ev U (Tree.upd r i (e.ev U r)) = mu.ev U r := E.ev_under U hlow hm
      rw [this] at k3
      exact k3
    · cases h
  | all i t ih => intro m pc r h; simp [endsT] at h
  | asm c t ih => intro m pc r h; simp [endsT] at h
  | bad => intro m pc r h; simp [endsT] at h

def endsOk (cnt : Nat) (inv : List E) (mu : E) (T : Tree LRes) : Bool := endsT cnt inv mu 1000 (inv.map fun e => (e, true)) T && (mu.under 1000 && inv.all fun e => e.under 1000)

theorem ends_ok {cnt : Nat} {mu : E} (h : endsOk cnt inv mu T = true) : ∀ {ds : List D}, ds.length = cnt → HoldI U inv ds → ∃ k os, LoopTo U inv T ds k os := by
  simp only [endsOk, Bool.and_eq_true, List.all_eq_true] at h
  obtain ⟨h1, h2, h3⟩ := h
  have key : ∀ (n : Nat) (ds : List D), ds.length = cnt → HoldI U inv ds → (mu.ev U (rOf ds)).toI.toNat ≤ n → ∃ k os, LoopTo U inv T ds k os := by
    intro n
    induction n with
    | zero =>
      intro ds hl hI hn
      have hp : PcOk U (rOf ds) (inv.map fun e => (e, true)) := fun x hx => by obtain ⟨e, he, rfl⟩ := List.mem_map.1 hx; exact hI e he
      obtain ⟨x, r', k1, _, k3⟩ := endsT_ok (r := rOf ds) h1 hp (fun x hx => by obtain ⟨e, he, rfl⟩ := List.mem_map.1 hx; exact h3 e he) h2
      cases x with
      | stuck => exact k3.elim
      | done k os => exact ⟨k, _, .done hI k1⟩
      | next es => obtain ⟨_, _, q1, q2⟩ := k3; omega
    | succ n ih =>
      intro ds hl hI hn
      have hp : PcOk U (rOf ds) (inv.map fun e => (e, true)) := fun x hx => by obtain ⟨e, he, rfl⟩ := List.mem_map.1 hx; exact hI e he
      obtain ⟨x, r', k1, _, k3⟩ := endsT_ok (r := rOf ds) h1 hp (fun x hx => by obtain ⟨e, he, rfl⟩ := List.mem_map.1 hx; exact h3 e he) h2
      cases x with
      | stuck => exact k3.elim
      | done k os => exact ⟨k, _, .done hI k1⟩
      | next es =>
        obtain ⟨q0, q1, q2, q3⟩ := k3
        obtain ⟨k, os, hk⟩ := ih (es.map (E.ev U r')) (by simp [q0]) q1 (by omega)
        exact ⟨k, os, .next hI k1 hk⟩
  intro ds hl hI
  exact key _ ds hl hI (Nat.le_refl _)
end

/-! ### A loop as a word -/

/-- What a way out leaves, of which the loop's word is not asked: what stood at a variable, or a literal; else the word's own. -/
inductive OutW where
  | same (c : Nat)
  | lit (e : E)
  | val (j : Nat)

def OutW.fits : OutW → E → Bool
  | .same c, e => e.same (.v c)
  | .lit x, e => e.same x
  | .val _, _ => true

def fitsOut : List OutW → List E → Bool
  | [], [] => true
  | o :: l, e :: m => o.fits e && fitsOut l m
  | _, _ => false

def keepsNext (C : List Nat) (es : List E) : Bool := C.all fun c => (nmOf es c).same (.v c)

/-- The variables of 'C' never turn, and the ways out are as told. -/
def keepsT (C : List Nat) (outs : List (List OutW)) : Tree LRes → Bool
  | .ret (.done k os) => (match outs[k]? with
    | some l => fitsOut l os && l.all fun o => match o with
      | .same c => C.any fun x => Nat.beq x c
      | .lit e => e.under 0
      | .val _ => true
    | none => false)
  | .ret (.next es) => keepsNext C es
  | .ite _ t e => keepsT C outs t && keepsT C outs e
  | .chk _ t => keepsT C outs t
  | _ => false

section
variable {U : Nat → D → D} {inv : List E} {T : Tree LRes}

theorem fitsOut_get : ∀ {l : List OutW} {os : List E}, fitsOut l os = true → l.length = os.length ∧ ∀ (j : Nat) (o : OutW) (e : E), l[j]? = some o → os[j]? = some e → o.fits e = true := by
  intro l
  induction l with
  | nil => intro os h; cases os <;> simp_all [fitsOut]
  | cons o l ih =>
    intro os h
    cases os with
    | nil => simp [fitsOut] at h
    | cons e os =>
      simp only [fitsOut, Bool.and_eq_true] at h
      obtain ⟨k1, k2⟩ := ih h.2
      refine ⟨by simp [k1], fun j o' e' h1 h2 => ?_⟩
      cases j with
      | zero => simp at h1 h2; subst h1 h2; exact h.1
      | succ j => exact k2 j o' e' (by simpa using h1) (by simpa using h2)

theorem keepsT_ok {C : List Nat} {outs : List (List OutW)} (hC : ∀ c ∈ C, c < 1000) : ∀ {t : Tree LRes} {m : Nat} {r : Nat → D} {x : LRes} {r' : Nat → D}, 1000 ≤ m → okA m t = true → keepsT C outs t = true → evA U t r = some (x, r') →
    (match x with
      | .next es => ∀ c ∈ C, (nmOf es c).ev U r' = r c
      | .done k os => ∃ l, outs[k]? = some l ∧ l.length = os.length ∧ ∀ (j : Nat) (o : OutW), l[j]? = some o → (match o with
        | .same c => c ∈ C ∧ (nmOf os j).ev U r' = r c
        | .lit e => e.under 0 = true ∧ (nmOf os j).ev U r' = e.ev U r
        | .val _ => True)
      | .stuck => False) := by
  intro t
  induction t with
  | ret x =>
    intro m r x' r' hm ho hk h
    simp only [evA, Option.some.injEq, Prod.mk.injEq] at h
    obtain ⟨rfl, rfl⟩ := h
    cases x with
    | stuck => simp [keepsT] at hk
    | next es =>
      intro c hc
      simp only [keepsT, keepsNext, List.all_eq_true] at hk
      rw [E.same_eq (hk c hc)]; rfl
    | done k os =>
      simp only [keepsT] at hk
      split at hk
      · rename_i l hl
        rw [Bool.and_eq_true, List.all_eq_true] at hk
        obtain ⟨k1, k2⟩ := fitsOut_get hk.1
        refine ⟨l, hl, k1, fun j o hj => ?_⟩
        have hlt : j < os.length := by rw [← k1]; exact (List.getElem?_eq_some_iff.1 hj).1
        have hf := k2 j o os[j] hj (List.getElem?_eq_getElem hlt)
        have hm := hk.2 o (List.mem_of_getElem? hj)
        have hnm : nmOf os j = os[j] := by unfold nmOf; rw [List.getD_eq_getElem?_getD, List.getElem?_eq_getElem hlt]; rfl
        cases o with
        | same c =>
          simp only [List.any_eq_true] at hm
          obtain ⟨x, hx1, hx2⟩ := hm
          have := Nat.eq_of_beq_eq_true hx2
          subst this
          refine ⟨hx1, ?_⟩
          rw [hnm, E.same_eq hf]; rfl
        | lit e => exact ⟨hm, by rw [hnm, E.same_eq hf]⟩
        | val _ => trivial
      · cases hk
  | ite c t e iht ihe =>
    intro m r x r' hm ho hk h
    simp only [okA, Bool.and_eq_true] at ho
    simp only [keepsT, Bool.and_eq_true] at hk
    simp only [evA] at h
    split at h
    · exact iht hm ho.2.1 hk.1 h
    · exact ihe hm ho.2.2 hk.2 h
  | chk c t ih =>
    intro m r x r' hm ho hk h
    unfold okA at ho
    split at ho
    · rename_i h'; cases h'
    · rename_i h'; cases h'
    · rename_i m _ _ i e t' h'
      cases h'
      simp only [Bool.and_eq_true] at ho
      simp only [evA] at h
      have hi := Nat.le_of_ble_eq_true ho.1
      have := ih (by omega) ho.2.2 hk h
      have low : ∀ c ∈ C, Tree.upd r i (e.ev U r) c = r c := fun c hc => by
        have := hC c hc
        unfold Tree.upd; rw [if_neg (by omega)]
      cases x with
      | stuck => exact this
      | next es => intro c hc; rw [this c hc]; exact low c hc
      | done k os =>
        obtain ⟨l, h1, h2, h3⟩ := this
        refine ⟨l, h1, h2, fun j o hj => ?_⟩
        have h4 := h3 j o hj
        cases o with
        | same c => exact ⟨h4.1, by rw [h4.2]; exact low c h4.1⟩
        | lit y =>
          exact ⟨h4.1, by rw [h4.2]; exact E.ev_under U (m := 0) (fun n hn => by omega) h4.1⟩
        | val _ => trivial
    · rename_i h'; cases h'
    · cases ho
  | all i t ih => intro m r x r' _ ho; simp [okA] at ho
  | asm c t ih => intro m r x r' _ ho; simp [okA] at ho
  | bad => intro m r x r' _ _ hk; simp [keepsT] at hk

/-- What a loop leaves where it is told not to ask. -/
def KeptAt (U : Nat → D → D) (C : List Nat) (outs : List (List OutW)) (ds : List D) (k : Nat) (os : List D) : Prop :=
  ∃ l, outs[k]? = some l ∧ l.length = os.length ∧ ∀ (j : Nat) (o : OutW), l[j]? = some o → (match o with
    | .same c => c ∈ C ∧ rOf os j = rOf ds c
    | .lit e => ∀ r : Nat → D, rOf os j = e.ev U r
    | .val _ => True)

theorem keeps_loop {C : List Nat} {outs : List (List OutW)} (hC : ∀ c ∈ C, c < 1000) (hok : okA 1000 T = true) (hk : keepsT C outs T = true) {ds : List D} {k : Nat} {os : List D} (h : LoopTo U inv T ds k os) : KeptAt U C outs ds k os := by
  induction h with
  | @done ds k es r' hI he =>
    obtain ⟨l, h1, h2, h3⟩ := keepsT_ok hC (Nat.le_refl _) hok hk he
    refine ⟨l, h1, by simp [h2], fun j o hj => ?_⟩
    have h4 := h3 j o hj
    cases o with
    | same c => exact ⟨h4.1, by rw [evs_rOf]; exact h4.2⟩
    | lit e => exact fun r => by rw [evs_rOf, h4.2]; exact E.ev_under U (m := 0) (fun n hn => by omega) h4.1
    | val _ => trivial
  | @next ds es r' k os hI he _ ih =>
    have hn := keepsT_ok hC (Nat.le_refl _) hok hk he
    obtain ⟨l, h1, h2, h3⟩ := ih
    refine ⟨l, h1, h2, fun j o hj => ?_⟩
    have h4 := h3 j o hj
    cases o with
    | same c =>
      exact ⟨h4.1, by rw [h4.2, evs_rOf]; exact hn c h4.1⟩
    | lit e => exact h4
    | val _ => trivial

/-- What a loop comes to. -/
noncomputable def loopVal (U : Nat → D → D) (inv : List E) (T : Tree LRes) (d : D) : D :=
  open Classical in if h : ∃ x : Nat × List D, LoopTo U inv T d.toL x.1 x.2 then .p (.i (Classical.choose h).1) (.l (Classical.choose h).2) else .b false

theorem loopVal_eq {ds : List D} {k : Nat} {os : List D} (h : LoopTo U inv T ds k os) : loopVal U inv T (.l ds) = .p (.i k) (.l os) := by
  have hex : ∃ x : Nat × List D, LoopTo U inv T (D.l ds).toL x.1 x.2 := ⟨(k, os), h⟩
  unfold loopVal
  rw [dif_pos hex]
  have hs := Classical.choose_spec hex
  obtain ⟨e1, e2⟩ := LoopTo.unique h hs
  rw [← e1, ← e2]

def tagW (n : Nat) (es : List E) : E := .o1 .fst (.app n (elemE es))
def valW (n : Nat) (es : List E) (j : Nat) : E := .o2 .sel (.o1 .snd (.app n (elemE es))) (.i j)
def resW (n : Nat) (outs : List (List OutW)) (ws : List E) (k : Nat) (es : List E) : List E := (outs.getD k []).map fun o => match o with
  | .same c => nmOf es c
  | .lit e => e
  | .val j => valW n ws j

/-- A loop that is a word by itself. -/
def wordRun (A : LoopT) (n : Nat) (outs : List (List OutW)) : LRun := ⟨A, tagW n, fun k es => resW n outs es k es, []⟩

/-- What a way out leaves of the word is what stands there. -/
def ownVals : Nat → List OutW → Bool
  | _, [] => true
  | j, o :: l => (match o with
    | .val i => Nat.beq i j
    | _ => true) && ownVals (j + 1) l

theorem ownVals_get : ∀ {l : List OutW} {i j n : Nat}, ownVals i l = true → l[j]? = some (.val n) → n = i + j := by
  intro l
  induction l with
  | nil => intro i j n _ h; simp at h
  | cons o l ih =>
    intro i j n h hj
    simp only [ownVals, Bool.and_eq_true] at h
    cases j with
    | zero => simp at hj; subst hj; exact Nat.eq_of_beq_eq_true h.1
    | succ j => have := ih h.2 (by simpa using hj); omega

theorem word_ev {n : Nat} {r : Nat → D} {es : List E} {k : Nat} {os : List D} (hU : ∀ d, U n d = loopVal U inv T d) (h : LoopTo U inv T (es.map (E.ev U r)) k os) :
    ((tagW n es).ev U r).toI = k ∧ ∀ j, (valW n es j).ev U r = rOf os j := by
  have hv : E.ev U r (.app n (elemE es)) = .p (.i k) (.l os) := by
    show U n ((elemE es).ev U r) = _
    rw [hU, elemE_ev, loopVal_eq h]
  constructor
  · show (O1.fst.ev (E.ev U r (.app n (elemE es)))).toI = _
    rw [hv]; rfl
  · intro j
    show O2.sel.ev (O1.snd.ev (E.ev U r (.app n (elemE es)))) (.i j) = _
    rw [hv]
    show (D.l os).at_ ((j : Int)).toNat = _
    rw [Int.toNat_natCast]; rfl

theorem resW_get (n : Nat) (outs : List (List OutW)) (ws : List E) (k : Nat) (es : List E) {l : List OutW} (hl : outs[k]? = some l) (j : Nat) : nmOf (resW n outs ws k es) j = match l[j]? with
    | some (.same c) => nmOf es c
    | some (.lit e) => e
    | some (.val i) => valW n ws i
    | none => .b false := by
  unfold resW nmOf
  rw [List.getD_eq_getElem?_getD (l := outs), hl]
  show (List.map _ l).getD j _ = _
  rw [List.getD_eq_getElem?_getD, List.getElem?_map]
  cases hx : l[j]? with
  | none => rfl
  | some o => cases o <;> rfl

theorem rOf_none {os : List D} {j : Nat} (h : os.length ≤ j) : rOf os j = .b false := by
  unfold rOf; rw [List.getD_eq_getElem?_getD, List.getElem?_eq_none h]; rfl

/-- A LOOP AS A WORD. -/
theorem word_told {A : LoopT} {n : Nat} {outs : List (List OutW)} {C : List Nat} {mu : E} (hU : ∀ d, U n d = loopVal U A.inv T d) (hends : endsOk A.t.cnt A.inv mu T = true) (hok : okA 1000 T = true) (hC : C.all (fun c => Nat.blt c 1000) = true)
    (hk : keepsT C outs T = true) (hown : outs.all (ownVals 0) = true) : Told U T (wordRun A n outs) := by
  intro r es hlen hI _ _
  obtain ⟨k, os, hto⟩ := ends_ok hends (ds := es.map (E.ev U r)) (by rw [List.length_map]; exact hlen) hI
  obtain ⟨h1, h2⟩ := word_ev hU hto
  refine ⟨k, os, hto, h1, fun _ _ _ j => .of_eqv ?_⟩
  have hC' : ∀ c ∈ C, c < 1000 := fun c hc => by
    rw [List.all_eq_true] at hC
    have := hC c hc
    rwa [Nat.blt_eq] at this
  obtain ⟨l, q1, q2, q3⟩ := keeps_loop hC' hok hk hto
  show D.eqv (rOf os j) ((nmOf (resW n outs es k es) j).ev U r)
  rw [resW_get n outs es k es q1 j]
  cases hx : l[j]? with
  | none =>
    rw [rOf_none (by rw [← q2]; exact List.getElem?_eq_none_iff.1 hx)]
    exact D.eqv.refl _
  | some o =>
    have h4 := q3 j o hx
    cases o with
    | same c => dsimp only at h4 ⊢; rw [h4.2, evs_rOf]; exact D.eqv.refl _
    | lit e => dsimp only at h4 ⊢; rw [h4 r]; exact D.eqv.refl _
    | val i =>
      dsimp only
      rw [h2 i]
      have : i = j := by
        rw [List.all_eq_true] at hown
        have := ownVals_get (hown l (List.mem_of_getElem? q1)) hx
        omega
      rw [this]; exact D.eqv.refl _
end

/-! ### One loop as another -/

def nrm2 (o : O2) (x y : E) : E := match o, x, y with
  | .iadd, .o2 .iadd a (.i m), .i n => .o2 .iadd a (.i (m + n))
  | .sel, a, .o2 .iadd i (.i 0) => .o2 .sel a i
  | o, x, y => .o2 o x y
/-- Sums of numbers with literals, one way. -/
def E.nrm : E → E
  | .o1 o x => .o1 o x.nrm
  | .o2 o x y => nrm2 o x.nrm y.nrm
  | .o3 o x y z => .o3 o x.nrm y.nrm z.nrm
  | .app n x => .app n x.nrm
  | e => e
theorem nrm2_ev {U : Nat → D → D} {r : Nat → D} (o : O2) (x y : E) : (nrm2 o x y).ev U r = o.ev (x.ev U r) (y.ev U r) := by
  unfold nrm2
  split
  · rename_i a m n
    show D.i _ = D.i _
    congr 1
    show (a.ev U r).toI + (m + n) = ((a.ev U r).toI + m) + n
    omega
  · rename_i k
    show (x.ev U r).at_ (k.ev U r).toI.toNat = (x.ev U r).at_ ((k.ev U r).toI + 0).toNat
    rw [Int.add_zero]
  · rfl

theorem E.nrm_ev {U : Nat → D → D} {r : Nat → D} : ∀ (e : E), e.nrm.ev U r = e.ev U r := by
  intro e
  induction e with
  | o1 o x ih => simp only [E.nrm, E.ev, ih]
  | app n x ih => simp only [E.nrm, E.ev, ih]
  | o3 o x y z ihx ihy ihz => simp only [E.nrm, E.ev, ihx, ihy, ihz]
  | o2 o x y ihx ihy =>
    show (nrm2 o x.nrm y.nrm).ev U r = _
    rw [nrm2_ev, ihx, ihy]; rfl
  | _ => rfl

def findN (e : E) : List (Nat × E) → Option Nat
  | [] => none
  | (j, x) :: l => if x.nrm.same e.nrm then some j else findN e l
def nameN (e : E) (nms : List (Nat × E)) : E := match findN e nms with
  | some j => .v j
  | none => e

/-- The other loop's round, walked where this one's has come to. -/
def sim1 (leaf : List (Nat × E) → LRes → Bool) (nms : List (Nat × E)) : List (Nat × E) → List (E × Bool) → Tree LRes → Bool
  | m, _, .ret x => leaf m x
  | m, pc, .ite c t e => (match c.sub m with
    | some c' => (match known c' pc with
      | some true => sim1 leaf nms m pc t
      | some false => sim1 leaf nms m pc e
      | none => sim1 leaf nms m ((c', true) :: pc) t && sim1 leaf nms m ((c', false) :: pc) e)
    | none => false)
  | m, pc, .chk (.o2 .fsame (.v i) e) t => (match lkM i m, e.sub m with
    | none, some e' => sim1 leaf nms ((i, nameN e' nms) :: m) pc t
    | _, _ => false)
  | _, _, _ => false

def simLeaf (rho : List E) (outs : List (List OutW)) (x2 : LRes) (m : List (Nat × E)) (x1 : LRes) : Bool :=
  match x1, x2 with
  | .next es1, .next es2 => (match subAll m es1, subAll (numbered 0 es2) rho with
    | some a, some b => E.sameAll (a.map E.nrm) (b.map E.nrm)
    | _, _ => false)
  | .done k1 os1, .done k2 os2 => Nat.beq k1 k2 && (match outs[k2]? with
    | some l => Nat.beq l.length os2.length && (List.range l.length).all fun j => (match l[j]? with
      | some (.val i) => (match (nmOf os1 i).sub m with
        | some e => e.nrm.same (nmOf os2 j).nrm
        | none => false)
      | _ => true)
    | none => false)
  | _, _ => false

def sim2 (rho : List E) (outs : List (List OutW)) (T1 : Tree LRes) : List (E × Bool) → List (Nat × E) → Tree LRes → Bool
  | pc, nms, .ret x => sim1 (simLeaf rho outs x) nms (numbered 0 rho) pc T1
  | pc, nms, .ite c t e => (match known c pc with
    | some true => sim2 rho outs T1 pc nms t
    | some false => sim2 rho outs T1 pc nms e
    | none => sim2 rho outs T1 ((c, true) :: pc) nms t && sim2 rho outs T1 ((c, false) :: pc) nms e)
  | pc, nms, .chk (.o2 .fsame (.v i) e) t => sim2 rho outs T1 pc ((i, e) :: nms) t
  | _, _, _ => false

def NmsOk (U : Nat → D → D) (r : Nat → D) (nms : List (Nat × E)) : Prop := ∀ p ∈ nms, r p.1 = p.2.ev U r

section
variable {U : Nat → D → D}

theorem nameN_ev {r : Nat → D} {e : E} {nms : List (Nat × E)} (h : NmsOk U r nms) : (nameN e nms).ev U r = e.ev U r := by
  have : ∀ {nms : List (Nat × E)} {j : Nat}, NmsOk U r nms → findN e nms = some j → r j = e.ev U r := by
    intro nms
    induction nms with
    | nil => intro j _ h; cases h
    | cons p l ih =>
      intro j hn h
      obtain ⟨i, x⟩ := p
      have h0 := hn (i, x) (by simp)
      unfold findN at h
      split at h
      · rename_i hs
        cases h
        rw [← E.nrm_ev x, E.same_eq hs, E.nrm_ev] at h0
        exact h0
      · exact ih (fun q hq => hn q (by simp [hq])) h
  unfold nameN
  split
  · rename_i j hj; exact this h hj
  · rfl

theorem sim1_ok {leaf : List (Nat × E) → LRes → Bool} {nms : List (Nat × E)} {r : Nat → D} (hn : NmsOk U r nms) : ∀ {t : Tree LRes} {m : List (Nat × E)} {pc : List (E × Bool)} {r1 : Nat → D}, Fills U r r1 m → PcOk U r pc → sim1 leaf nms m pc t = true →
    ∃ x r1' m', evA U t r1 = some (x, r1') ∧ Fills U r r1' m' ∧ leaf m' x = true := by
  intro t
  induction t with
  | ret x => intro m pc r1 hf _ h; exact ⟨x, r1, m, rfl, hf, h⟩
  | ite c t e iht ihe =>
    intro m pc r1 hf hp h
    simp only [sim1] at h
    split at h
    · rename_i c' hc
      have hev := E.sub_ev hf hc
      simp only [evA]
      rw [← hev]
      split at h
      · rename_i hk; rw [known_ok hp hk, if_pos rfl]; exact iht hf hp h
      · rename_i hk; rw [known_ok hp hk, if_neg (by simp)]; exact ihe hf hp h
      · rw [Bool.and_eq_true] at h
        have ext : ∀ b, (c'.ev U r).toB = b → PcOk U r ((c', b) :: pc) := fun b hb x hx => by
          rcases List.mem_cons.1 hx with rfl | hx
          · exact hb
          · exact hp x hx
        cases hb : (c'.ev U r).toB with
        | true => rw [if_pos rfl]; exact iht hf (ext true hb) h.1
        | false => rw [if_neg (by simp)]; exact ihe hf (ext false hb) h.2
    · cases h
  | chk c t ih =>
    intro m pc r1 hf hp h
    unfold sim1 at h
    split at h
    · rename_i h'; cases h'
    · rename_i h'; cases h'
    · rename_i i e t' h'
      cases h'
      split at h
      · rename_i e' hi he
        simp only [evA]
        refine ih ?_ hp h
        intro n x hx
        unfold lkM at hx
        unfold Tree.upd
        cases hb : Nat.beq i n with
        | true =>
          rw [hb] at hx
          simp only [cond_true, Option.some.injEq] at hx
          have := Nat.eq_of_beq_eq_true hb
          subst this hx
          rw [if_pos rfl, nameN_ev hn, E.sub_ev hf he]
        | false =>
          rw [hb] at hx
          simp only [cond_false] at hx
          have hne : n ≠ i := fun e => by subst e; rw [Nat.beq_refl] at hb; cases hb
          rw [if_neg hne]
          exact hf n x hx
      · cases h
    · cases h
  | all i t ih => intro m pc r1 _ _ h; simp [sim1] at h
  | asm c t ih => intro m pc r1 _ _ h; simp [sim1] at h
  | bad => intro m pc r1 _ _ h; simp [sim1] at h

theorem under_le {m m' : Nat} (h : m ≤ m') : ∀ {x : E}, x.under m = true → x.under m' = true := by
  intro x
  induction x with
  | v n => intro h; simp [E.under] at h ⊢; omega
  | o1 o a iha => intro h; exact iha h
  | app n a iha => intro h; exact iha h
  | o2 o a b iha ihb => intro h; simp [E.under] at h ⊢; exact ⟨iha h.1, ihb h.2⟩
  | o3 o a b c iha ihb ihc => intro h; simp [E.under] at h ⊢; exact ⟨iha h.1, ihb h.2.1, ihc h.2.2⟩
  | _ => intro _; rfl

theorem sim2_ok {rho : List E} {outs : List (List OutW)} {T1 : Tree LRes} : ∀ {t : Tree LRes} {m : Nat} {pc : List (E × Bool)} {nms : List (Nat × E)} {r : Nat → D} {x2 : LRes} {r2 : Nat → D}, okA m t = true → sim2 rho outs T1 pc nms t = true →
    PcOk U r pc → (∀ x ∈ pc, x.1.under m = true) → NmsOk U r nms → (∀ p ∈ nms, p.1 < m ∧ p.2.under m = true) → (∀ e ∈ rho, e.under m = true) → evA U t r = some (x2, r2) →
    (∀ e ∈ rho, e.ev U r2 = e.ev U r) ∧ ∀ r1, Fills U r r1 (numbered 0 rho) → ∃ x1 r1' m', evA U T1 r1 = some (x1, r1') ∧ Fills U r2 r1' m' ∧ simLeaf rho outs x2 m' x1 = true := by
  intro t
  induction t with
  | ret x =>
    intro m pc nms r x2 r2 _ h hp _ hn _ _ he
    simp only [evA, Option.some.injEq, Prod.mk.injEq] at he
    obtain ⟨rfl, rfl⟩ := he
    exact ⟨fun _ _ => rfl, fun r1 hf => sim1_ok hn hf hp h⟩
  | ite c t e iht ihe =>
    intro m pc nms r x2 r2 ho h hp hu hn hnu hr he
    simp only [okA, Bool.and_eq_true] at ho
    simp only [sim2] at h
    simp only [evA] at he
    have ext : ∀ b, (c.ev U r).toB = b → PcOk U r ((c, b) :: pc) := fun b hb x hx => by
      rcases List.mem_cons.1 hx with rfl | hx
      · exact hb
      · exact hp x hx
    have extu : ∀ b, ∀ x ∈ (c, b) :: pc, x.1.under m = true := fun b x hx => by
      rcases List.mem_cons.1 hx with rfl | hx
      · exact ho.1
      · exact hu x hx
    split at h
    · rename_i hk; rw [known_ok hp hk, if_pos rfl] at he; exact iht ho.2.1 h hp hu hn hnu hr he
    · rename_i hk; rw [known_ok hp hk, if_neg (by simp)] at he; exact ihe ho.2.2 h hp hu hn hnu hr he
    · rw [Bool.and_eq_true] at h
      cases hb : (c.ev U r).toB with
      | true => rw [hb, if_pos rfl] at he; exact iht ho.2.1 h.1 (ext true hb) (extu true) hn hnu hr he
      | false => rw [hb, if_neg (by simp)] at he; exact ihe ho.2.2 h.2 (ext false hb) (extu false) hn hnu hr he
  | chk c t ih =>
    intro m pc nms r x2 r2 ho h hp hu hn hnu hr he
    unfold okA at ho
    split at ho
    · rename_i h'; cases h'
    · rename_i h'; cases h'
    · rename_i m0 _ _ i e t' h'
      cases h'
      simp only [Bool.and_eq_true] at ho
      simp only [sim2] at h
      simp only [evA] at he
      have hi := Nat.le_of_ble_eq_true ho.1
      have low : ∀ n, n < m0 → Tree.upd r i (e.ev U r) n = r n := fun n hn => by unfold Tree.upd; rw [if_neg (by omega)]
      obtain ⟨k1, k2⟩ := ih (m := i + 1) ho.2.2 h (pc_under hp hu low) (fun x hx => under_le (by omega) (hu x hx)) (fun p hp' => by
          rcases List.mem_cons.1 hp' with rfl | hp'
          · show Tree.upd r i (e.ev U r) i = _
            rw [E.ev_under U low ho.2.1]
            unfold Tree.upd; rw [if_pos rfl]
          · obtain ⟨q1, q2⟩ := hnu p hp'
            rw [low _ q1, E.ev_under U low q2]; exact hn p hp')
        (fun p hp' => by
          rcases List.mem_cons.1 hp' with rfl | hp'
          · exact ⟨by show i < i + 1; omega, under_le (by omega) ho.2.1⟩
          · obtain ⟨q1, q2⟩ := hnu p hp'
            exact ⟨by omega, under_le (by omega) q2⟩) (fun e he => under_le (by omega) (hr e he)) he
      refine ⟨fun x hx => by rw [k1 x hx, E.ev_under U low (hr x hx)], fun r1 hf => k2 r1 fun n x hx => ?_⟩
      obtain ⟨j, _, hj⟩ := lkM_back hx
      rw [E.ev_under U low (hr x (List.mem_of_getElem? hj))]
      exact hf n x hx
    · rename_i h'; cases h'
    · cases ho
  | all i t ih => intro m pc nms r x2 r2 ho; simp [okA] at ho
  | asm c t ih => intro m pc nms r x2 r2 ho; simp [okA] at ho
  | bad => intro m pc nms r x2 r2 _ h; simp [sim2] at h

/-- One loop does what another does, whose variables are 'rho' of its own. -/
def simOk (inv1 inv2 rho : List E) (outs : List (List OutW)) (T1 T2 : Tree LRes) : Bool :=
  sim2 rho outs T1 (inv2.map fun e => (e, true)) [] T2 && (holdAll inv1 rho (inv2.map fun e => (e, true)) && ((rho.all fun e => e.under 1000) && inv2.all fun e => e.under 1000))

theorem sim_loop {inv1 inv2 rho : List E} {outs : List (List OutW)} {T1 T2 : Tree LRes} (hs : simOk inv1 inv2 rho outs T1 T2 = true) (hok : okA 1000 T2 = true) {ds : List D} {k : Nat} {os : List D} (h : LoopTo U inv2 T2 ds k os) :
    ∃ os1, LoopTo U inv1 T1 (rho.map (E.ev U (rOf ds))) k os1 ∧ ∀ l, outs[k]? = some l → ∀ (j i : Nat), l[j]? = some (.val i) → rOf os j = rOf os1 i := by
  simp only [simOk, Bool.and_eq_true, List.all_eq_true] at hs
  obtain ⟨h1, h2, h3, h4⟩ := hs
  have start : ∀ {ds : List D}, HoldI U inv2 ds → PcOk U (rOf ds) (inv2.map fun e => (e, true)) := fun {ds} hI x hx => by
    obtain ⟨e, he, rfl⟩ := List.mem_map.1 hx; exact hI e he
  have step : ∀ {ds : List D} {x2 : LRes} {r2 : Nat → D}, HoldI U inv2 ds → evA U T2 (rOf ds) = some (x2, r2) → HoldI U inv1 (rho.map (E.ev U (rOf ds))) ∧
      ∃ x1 r1' m', evA U T1 (rOf (rho.map (E.ev U (rOf ds)))) = some (x1, r1') ∧ Fills U r2 r1' m' ∧ simLeaf rho outs x2 m' x1 = true := by
    intro ds x2 r2 hI he
    refine ⟨holdAll_ok (start hI) h2, ?_⟩
    obtain ⟨_, k2⟩ := sim2_ok hok h1 (start hI) (fun x hx => by obtain ⟨e, he, rfl⟩ := List.mem_map.1 hx; exact h4 e he) (fun p hp => by cases hp) (fun p hp => by cases hp) h3 he
    exact k2 _ (fills_rOf rho)
  induction h with
  | @done ds k es r2 hI he =>
    obtain ⟨hI1, x1, r1', m', k1, k2, k3⟩ := step hI he
    cases x1 with
    | done kk os1 =>
      simp only [simLeaf, Bool.and_eq_true] at k3
      have e1 := Nat.eq_of_beq_eq_true k3.1
      subst e1
      refine ⟨_, .done hI1 k1, fun l hl j i hj => ?_⟩
      have k4 := k3.2
      rw [hl] at k4
      simp only [Bool.and_eq_true, List.all_eq_true] at k4
      have := k4.2 j (List.mem_range.2 (List.getElem?_eq_some_iff.1 hj).1)
      rw [hj] at this
      dsimp only at this
      split at this
      · rename_i e hsub
        rw [evs_rOf, evs_rOf, ← E.nrm_ev (nmOf _ j), ← E.same_eq this, E.nrm_ev, E.sub_ev k2 hsub]
      · cases this
    | next _ => simp [simLeaf] at k3
    | stuck => simp [simLeaf] at k3
  | @next ds es r2 k os hI he _ ih =>
    obtain ⟨hI1, x1, r1', m', k1, k2, k3⟩ := step hI he
    cases x1 with
    | done _ _ => simp [simLeaf] at k3
    | stuck => simp [simLeaf] at k3
    | next es1 =>
      simp only [simLeaf] at k3
      split at k3
      · rename_i a b ha hb
        have e := E.sameAll_eq k3
        have eab : a.map (E.ev U r2) = b.map (E.ev U r2) := by
          have := congrArg (List.map (E.ev U r2)) e
          rw [List.map_map, List.map_map] at this
          have hc : (E.ev U r2) ∘ E.nrm = E.ev U r2 := funext fun x => E.nrm_ev x
          rwa [hc] at this
        have e1 := subAll_ev k2 ha
        have e2 := subAll_ev (fills_rOf (U := U) (r := r2) es) hb
        obtain ⟨os1, q1, q2⟩ := ih
        refine ⟨os1, .next hI1 k1 ?_, q2⟩
        rw [← e1, eab, e2]
        exact q1
      · cases k3

theorem sub_total {es : List E} : ∀ {e : E}, e.under es.length = true → ∃ e', e.sub (numbered 0 es) = some e' := by
  intro e
  induction e with
  | v n =>
    intro h
    have hn : n < es.length := by simpa [E.under] using h
    exact ⟨es[n], by have := lkM_numbered (i := 0) (List.getElem?_eq_getElem hn); rw [Nat.zero_add] at this; exact this⟩
  | o1 o a iha => intro h; obtain ⟨a', ha⟩ := iha h; simp only [E.sub, ha]; exact ⟨_, rfl⟩
  | app n a iha => intro h; obtain ⟨a', ha⟩ := iha h; simp only [E.sub, ha]; exact ⟨_, rfl⟩
  | o2 o a b iha ihb =>
    intro h
    simp [E.under] at h
    obtain ⟨a', ha⟩ := iha h.1
    obtain ⟨b', hb⟩ := ihb h.2
    simp only [E.sub, ha, hb]
    exact ⟨_, rfl⟩
  | o3 o a b c iha ihb ihc =>
    intro h
    simp [E.under] at h
    obtain ⟨a', ha⟩ := iha h.1
    obtain ⟨b', hb⟩ := ihb h.2.1
    obtain ⟨c', hc⟩ := ihc h.2.2
    simp only [E.sub, ha, hb, hc]
    cases o <;> exact ⟨_, rfl⟩
  | b x => intro _; exact ⟨_, rfl⟩
  | i x => intro _; exact ⟨_, rfl⟩
  | f x => intro _; exact ⟨_, rfl⟩
  | s x => intro _; exact ⟨_, rfl⟩

theorem subAll_total {es : List E} : ∀ {l : List E}, (l.all fun e => e.under es.length) = true → ∃ l', subAll (numbered 0 es) l = some l' := by
  intro l
  induction l with
  | nil => intro _; exact ⟨[], rfl⟩
  | cons e l ih =>
    intro h
    simp only [List.all_cons, Bool.and_eq_true] at h
    obtain ⟨e', he⟩ := sub_total h.1
    obtain ⟨l', hl⟩ := ih h.2
    simp only [subAll, he, hl]
    exact ⟨_, rfl⟩

/-- The other loop's variables, where this one begins. -/
def rhoAt (rho es : List E) : List E := (subAll (numbered 0 es) rho).getD []

/-- A loop that is another one's word. -/
def simRun (A : LoopT) (n : Nat) (rho : List E) (outs : List (List OutW)) : LRun := ⟨A, fun es => tagW n (rhoAt rho es), fun k es => resW n outs (rhoAt rho es) k es, []⟩

/-- A LOOP AS ANOTHER ONE'S WORD. -/
theorem sim_told {A : LoopT} {n : Nat} {rho inv1 : List E} {outs : List (List OutW)} {C : List Nat} {mu : E} {T1 T2 : Tree LRes} (hU : ∀ d, U n d = loopVal U inv1 T1 d) (hends : endsOk A.t.cnt A.inv mu T2 = true) (hok : okA 1000 T2 = true)
    (hC : C.all (fun c => Nat.blt c 1000) = true) (hk : keepsT C outs T2 = true) (hs : simOk inv1 A.inv rho outs T1 T2 = true) (hrho : (rho.all fun e => e.under A.t.cnt) = true) : Told U T2 (simRun A n rho outs) := by
  intro r es hlen hI _ _
  obtain ⟨k, os, hto⟩ := ends_ok hends (ds := es.map (E.ev U r)) (by rw [List.length_map]; exact hlen) hI
  obtain ⟨os1, hto1, hval⟩ := sim_loop hs hok hto
  obtain ⟨ws, hws⟩ := subAll_total (es := es) (l := rho) (by rw [hlen]; exact hrho)
  have hat : rhoAt rho es = ws := by unfold rhoAt; rw [hws]; rfl
  have hev : ws.map (E.ev U r) = rho.map (E.ev U (rOf (es.map (E.ev U r)))) := subAll_ev (fills_rOf es) hws
  rw [← hev] at hto1
  obtain ⟨h1, h2⟩ := word_ev hU hto1
  refine ⟨k, os, hto, by show ((tagW n (rhoAt rho es)).ev U r).toI = k; rw [hat]; exact h1, fun _ _ _ j => .of_eqv ?_⟩
  have hC' : ∀ c ∈ C, c < 1000 := fun c hc => by
    rw [List.all_eq_true] at hC
    have := hC c hc
    rwa [Nat.blt_eq] at this
  obtain ⟨l, q1, q2, q3⟩ := keeps_loop hC' hok hk hto
  show D.eqv (rOf os j) ((nmOf (resW n outs (rhoAt rho es) k es) j).ev U r)
  rw [hat, resW_get n outs ws k es q1 j]
  cases hx : l[j]? with
  | none =>
    rw [rOf_none (by rw [← q2]; exact List.getElem?_eq_none_iff.1 hx)]
    exact D.eqv.refl _
  | some o =>
    have h4 := q3 j o hx
    cases o with
    | same c => dsimp only at h4 ⊢; rw [h4.2, evs_rOf]; exact D.eqv.refl _
    | lit e => dsimp only at h4 ⊢; rw [h4 r]; exact D.eqv.refl _
    | val i =>
      dsimp only
      rw [h2 i, hval l q1 j i hx]; exact D.eqv.refl _
end
end Go.Sx
