/-
  Sx, part Zj: the checker that knows intervals: the law.
-/
import Derived.Test.YtaflnmmnaiaceaaSxZi
namespace Go.Sx
open Ieee
open E (mk1 mk2 mkIte mk1_ev mk2_ev mkIte_ev)

/-- What is known on a way. -/
structure Ks where
  env : List (Nat × E)
  wfs : List (Nat × FloatKind)
  facts : IvT
  cs : List (E × Bool)
  T : IvT

/-- What a test tells besides. -/
def implied (env : List (Nat × E)) (x : E) (b : Bool) : List (E × Bool) :=
  (x, b) :: (match isFin? [] x with
    | some p => if b then (close env [p]).map fun q => (norm env (finE q.1 q.2), true) else []
    | none => [])

def against (new cs : List (E × Bool)) : Bool := new.any fun p => match look p.1 cs with
  | some b => b != p.2
  | none => false

def Ks.learn (K : Ks) (new : List (E × Bool)) : Ks :=
  let fs := new.flatMap fun p => refF K.wfs K.T p ++ refI K.T p
  let facts := fs ++ K.facts
  let cs := new ++ K.cs
  ⟨K.env, K.wfs, facts, cs, match fs with
    | [] => K.T
    | _ => ivAll cs facts K.env⟩

def wfA (wfs : List (Nat × FloatKind)) (k : FloatKind) : E → Bool
  | .v n => wfs.any fun p => Nat.beq p.1 n && decide (p.2 = k)
  | .f (some w) => decide (w < 2 ^ k.format.width) && !isNanW k w
  | _ => false

def wfE (wfs : List (Nat × FloatKind)) : E → Option FloatKind
  | .o2 (.fadd k) _ _ | .o2 (.fsub k) _ _ | .o2 (.fmul k) _ _ | .o2 (.fdiv k) _ _ => some k
  | .o1 .sqrt _ => some .f64
  | .o1 (.conv .f32 .f64) x => if wfA wfs .f32 x then some .f64 else none
  | .o1 (.conv .f64 .f32) x => if wfA wfs .f64 x then some .f32 else none
  | _ => none

def Ks.name (K : Ks) (i : Nat) (e : E) : Ks :=
  ⟨(i, e) :: K.env, (match wfE K.wfs e with | some k => (i, k) :: K.wfs | none => K.wfs), K.facts, K.cs, match ivE K.T K.cs e with
    | some (k, I) => ivPut i k I K.T
    | none => K.T⟩

def Ks.ask (K : Ks) (c : E) : Option Bool :=
  match look c K.cs with
  | some b => some b
  | none => decI K.env K.T c

def allTrueI : Nat → Ks → Tree SV → Bool
  | _, _, .ret (.bool (.b true)) => true
  | m, K, .ite c t e => c.under m && (match K.ask (normP K.env c).1 with
      | some b => bif b == (normP K.env c).2 then allTrueI m K t else allTrueI m K e
      | none => (against (implied K.env (normP K.env c).1 (normP K.env c).2) K.cs || allTrueI m (K.learn (implied K.env (normP K.env c).1 (normP K.env c).2)) t) &&
        (against (implied K.env (normP K.env c).1 (!(normP K.env c).2)) K.cs || allTrueI m (K.learn (implied K.env (normP K.env c).1 (!(normP K.env c).2))) e))
  | m, K, .chk (.o2 .fsame (.v i) e) t => Nat.ble m i && (e.under m && allTrueI (i + 1) (K.name i e) t)
  | _, _, _ => false

structure KsOk (U : Nat → D → D) (r : Nat → D) (m : Nat) (K : Ks) : Prop where
  env : EnvOk U r K.env
  envU : EnvUnder m K.env
  wfs : WfsOk r K.wfs
  wfsU : ∀ p ∈ K.wfs, p.1 < m
  facts : TOk r K.facts
  factsU : TUnder m K.facts
  cs : PcOk U r K.cs
  csU : ∀ p ∈ K.cs, p.1.under m = true
  T : TOk r K.T
  TU : TUnder m K.T

section
variable {U : Nat → D → D} {r : Nat → D} {m : Nat} {w : World} {Q : Value → World → Prop}

theorem implied_ok {K : Ks} (h : KsOk U r m K) {x : E} {b : Bool} (hx : (x.ev U r).toB = b) : PcOk U r (implied K.env x b) := by
  intro p hp
  unfold implied at hp
  rcases List.mem_cons.1 hp with rfl | hp'
  · exact hx
  · cases hf : isFin? [] x with
    | none => rw [hf] at hp'; cases hp'
    | some q0 =>
      obtain ⟨k, a⟩ := q0
      rw [hf] at hp'
      dsimp only at hp'
      split at hp'
      · rename_i hb
        subst hb
        rw [List.mem_map] at hp'
        obtain ⟨q, hq, rfl⟩ := hp'
        rw [isFin?_ok (U := U) (r := r) (env := []) (fun _ h => by cases h) hf, finF_iff] at hx
        have := close_ok (U := U) (r := r) (env := K.env) (F := [(k, a)]) h.env (fun y hy => by
          rcases List.mem_cons.1 hy with rfl | hy
          · exact hx
          · cases hy) q hq
        show ((norm K.env (finE q.1 q.2)).ev U r).toB = true
        rw [norm_ok h.env, finE_ev, finF_iff]
        exact this
      · cases hp'

theorem implied_under {K : Ks} (h : KsOk U r m K) {x : E} {b : Bool} (hx : x.under m = true) : ∀ p ∈ implied K.env x b, p.1.under m = true := by
  intro p hp
  unfold implied at hp
  rcases List.mem_cons.1 hp with rfl | hp'
  · exact hx
  · cases hf : isFin? [] x with
    | none => rw [hf] at hp'; cases hp'
    | some q0 =>
      obtain ⟨k, a⟩ := q0
      rw [hf] at hp'
      dsimp only at hp'
      split at hp'
      · rw [List.mem_map] at hp'
        obtain ⟨q, hq, rfl⟩ := hp'
        have ha : a.under m = true := isFin?_under (env := []) (fun _ h => by cases h) hx hf
        exact norm_under h.envU (finE_under (close_under (F := [(k, a)]) h.envU (fun y hy => by
          rcases List.mem_cons.1 hy with rfl | hy
          · exact ha
          · cases hy) q hq))
      · cases hp'

theorem against_ok {K : Ks} (h : KsOk U r m K) {new : List (E × Bool)} (hn : PcOk U r new) (ha : against new K.cs = true) : False := by
  unfold against at ha
  rw [List.any_eq_true] at ha
  obtain ⟨p, hp, ha⟩ := ha
  split at ha
  · rename_i b hl
    have h1 := look_ok h.cs hl
    have h2 := hn p hp
    rw [h1] at h2
    simp [h2] at ha
  · cases ha

theorem factA_under {k : FloatKind} {a : E} {I : Iv} (h : a.under m = true) : TUnder m (factA k a I) := by
  unfold factA
  split
  · intro p hp
    rcases List.mem_cons.1 hp with rfl | hp
    · simpa [E.under] using h
    · cases hp
  · intro p hp; cases hp

theorem TUnder.append {A B : IvT} (ha : TUnder m A) (hb : TUnder m B) : TUnder m (A ++ B) := fun p hp => (List.mem_append.1 hp).elim (ha p) (hb p)
theorem TUnder.nil : TUnder m [] := fun _ h => by cases h

theorem refI_under {T : IvT} {p : E × Bool} (h : p.1.under m = true) : TUnder m (refI T p) := by
  unfold refI
  split <;> (try exact TUnder.nil)
  all_goals
    rename_i k a b t
    simp only [E.under, Bool.and_eq_true] at h
    split
    · split
      · exact (factA_under h.1).append (factA_under h.2)
      · first
          | exact (factA_under h.1).append (factA_under h.2)
          | (refine TUnder.append ?_ ?_ <;> split <;> first | exact factA_under h.1 | exact factA_under h.2 | exact TUnder.nil)
    · exact TUnder.nil

theorem refF_under {wfs : List (Nat × FloatKind)} {T : IvT} (hw : ∀ p ∈ wfs, p.1 < m) {p : E × Bool} : TUnder m (refF wfs T p) := by
  unfold refF
  split
  · split
    · rename_i hc
      rw [Bool.and_eq_true, List.any_eq_true] at hc
      obtain ⟨⟨q, hq, h2⟩, _⟩ := hc
      simp only [Bool.and_eq_true, decide_eq_true_eq] at h2
      intro y hy
      rcases List.mem_cons.1 hy with rfl | hy
      · have := hw q hq
        rw [Nat.eq_of_beq_eq_true h2.1] at this
        exact this
      · cases hy
    · exact TUnder.nil
  · exact TUnder.nil

theorem learn_ok {K : Ks} (h : KsOk U r m K) {new : List (E × Bool)} (hn : PcOk U r new) (hu : ∀ p ∈ new, p.1.under m = true) : KsOk U r m (K.learn new) := by
  have f1 : TOk r (new.flatMap fun p => refF K.wfs K.T p ++ refI K.T p) := by
    intro q hq
    rw [List.mem_flatMap] at hq
    obtain ⟨p, hp, hq⟩ := hq
    exact (TOk.append (refF_ok (U := U) h.wfs (hn p hp)) (refI_ok (U := U) h.T (hn p hp))) q hq
  have f2 : TUnder m (new.flatMap fun p => refF K.wfs K.T p ++ refI K.T p) := by
    intro q hq
    rw [List.mem_flatMap] at hq
    obtain ⟨p, hp, hq⟩ := hq
    exact (TUnder.append (refF_under h.wfsU) (refI_under (hu p hp))) q hq
  have c1 : PcOk U r (new ++ K.cs) := fun p hp => (List.mem_append.1 hp).elim (hn p) (h.cs p)
  have c2 : ∀ p ∈ new ++ K.cs, p.1.under m = true := fun p hp => (List.mem_append.1 hp).elim (hu p) (h.csU p)
  refine ⟨h.env, h.envU, h.wfs, h.wfsU, f1.append h.facts, f2.append h.factsU, c1, c2, ?_, ?_⟩
  · unfold Ks.learn
    dsimp only
    split
    · exact h.T
    · exact ivAll_ok c1 (f1.append h.facts) h.env
  · unfold Ks.learn
    dsimp only
    split
    · exact h.TU
    · exact ivAll_under (f2.append h.factsU) h.envU

theorem wf_none (k : FloatKind) : Wf k none := by
  cases k
  · exact ⟨2143289344, by decide, by decide +kernel⟩
  · exact ⟨9221120237041090560, by decide, by decide +kernel⟩

theorem wf_lift {op : BinOp} {k : FloatKind} (x y : Fl) : Wf k (Fl.op op k x y) := by
  cases h : Fl.op op k x y with
  | none => exact wf_none k
  | some w =>
    cases x with
    | none => cases h
    | some a =>
      cases y with
      | none => cases h
      | some b => exact ⟨w, fop_lt h, cn_of_not (fop_not_nan h)⟩

theorem wfA_ok {wfs : List (Nat × FloatKind)} (hw : WfsOk r wfs) {k : FloatKind} {x : E} (h : wfA wfs k x = true) : Wf k (x.ev U r).toF := by
  unfold wfA at h
  split at h
  · rw [List.any_eq_true] at h
    obtain ⟨p, hp, h⟩ := h
    simp only [Bool.and_eq_true, decide_eq_true_eq] at h
    have := hw p hp
    rw [Nat.eq_of_beq_eq_true h.1, h.2] at this
    exact this
  · simp only [Bool.and_eq_true, decide_eq_true_eq, Bool.not_eq_true'] at h
    exact ⟨_, h.1, cn_of_not h.2⟩
  · cases h

theorem wf_conv {s d : FloatKind} (hne : s ≠ d) {x : Fl} (hx : Wf s x) : Wf d (Fl.conv s d x) := by
  cases x with
  | none => exact wf_none d
  | some a =>
    obtain ⟨h1, h2⟩ := hx.some_lt
    have : Fl.conv s d (some a) = some (d.encode (s.decode a)) := by simp only [Fl.conv, if_neg hne]
    rw [this]
    exact ⟨_, encode_lt d _, encode_cn d h2⟩

theorem wfE_ok {wfs : List (Nat × FloatKind)} (hw : WfsOk r wfs) {e : E} {k : FloatKind} (h : wfE wfs e = some k) : Wf k (e.ev U r).toF := by
  unfold wfE at h
  split at h
  · cases h; exact wf_lift (op := .add) _ _
  · cases h; exact wf_lift (op := .sub) _ _
  · cases h; exact wf_lift (op := .mul) _ _
  · cases h; exact wf_lift (op := .quo) _ _
  · rename_i a
    cases h
    show Wf .f64 (Fl.sqrt (a.ev U r).toF)
    cases hx : Fl.sqrt (a.ev U r).toF with
    | none => exact wf_none _
    | some w =>
      cases ha : (a.ev U r).toF with
      | none => rw [ha] at hx; cases hx
      | some u =>
        rw [ha] at hx
        exact ⟨w, FloatKind.f64.format.sqrt_lt hx, cn_of_not (sqrt_not_nan hx)⟩
  · split at h
    · rename_i hc
      cases h
      exact wf_conv (by decide) (wfA_ok (U := U) hw hc)
    · cases h
  · split at h
    · rename_i hc
      cases h
      exact wf_conv (by decide) (wfA_ok (U := U) hw hc)
    · cases h
  · cases h

theorem upd_low {i n : Nat} {d : D} (h : n < i) : Tree.upd r i d n = r n := by unfold Tree.upd; rw [if_neg (by omega)]

theorem name_ok {K : Ks} (h : KsOk U r m K) {i : Nat} {e : E} (hm : m ≤ i) (hu : e.under m = true) : KsOk U (Tree.upd r i (e.ev U r)) (i + 1) (K.name i e) := by
  have hi : Tree.upd r i (e.ev U r) i = e.ev U r := by unfold Tree.upd; rw [if_pos rfl]
  have tu : ∀ {A : IvT}, TUnder m A → TOk r A → TOk (Tree.upd r i (e.ev U r)) A := fun hA hT p hp => by
    rw [upd_low (by have := hA p hp; omega)]; exact hT p hp
  have tw : ∀ {A : IvT}, TUnder m A → TUnder (i + 1) A := fun hA p hp => by have := hA p hp; omega
  refine ⟨?_, ?_, ?_, ?_, tu h.factsU h.facts, tw h.factsU, ?_, ?_, ?_, ?_⟩
  · intro p hp
    rcases List.mem_cons.1 hp with rfl | hp
    · show Tree.upd r i (e.ev U r) i = _
      rw [upd_under hm hu, hi]
    · have h1 := h.envU p hp
      rw [upd_under hm h1.2, upd_low (by omega)]
      exact h.env p hp
  · intro p hp
    rcases List.mem_cons.1 hp with rfl | hp
    · exact ⟨Nat.lt_succ_self _, under_mono (Nat.le_succ_of_le hm) hu⟩
    · exact ⟨by have := (h.envU p hp).1; omega, under_mono (Nat.le_succ_of_le hm) (h.envU p hp).2⟩
  · have old : WfsOk (Tree.upd r i (e.ev U r)) K.wfs := fun p hp => by
      rw [upd_low (by have := h.wfsU p hp; omega)]; exact h.wfs p hp
    unfold Ks.name
    dsimp only
    split
    · rename_i k hk
      intro p hp
      rcases List.mem_cons.1 hp with rfl | hp
      · show Wf k (Tree.upd r i (e.ev U r) i).toF
        rw [hi]; exact wfE_ok h.wfs hk
      · exact old p hp
    · exact old
  · have old : ∀ p ∈ K.wfs, p.1 < i + 1 := fun p hp => by have := h.wfsU p hp; omega
    unfold Ks.name
    dsimp only
    split
    · intro p hp
      rcases List.mem_cons.1 hp with rfl | hp
      · exact Nat.lt_succ_self _
      · exact old p hp
    · exact old
  · intro p hp
    rw [upd_under hm (h.csU p hp)]; exact h.cs p hp
  · intro p hp; exact under_mono (Nat.le_succ_of_le hm) (h.csU p hp)
  · unfold Ks.name
    dsimp only
    split
    · rename_i k I hk
      refine ivPut_ok (tu h.TU h.T) ?_
      rw [hi]; exact ivE_ok h.T h.cs hk
    · exact tu h.TU h.T
  · unfold Ks.name
    dsimp only
    split
    · exact ivPut_under (tw h.TU) (Nat.lt_succ_self _)
    · exact tw h.TU

theorem ask_ok {K : Ks} (h : KsOk U r m K) {c : E} {b : Bool} (ha : K.ask c = some b) : (c.ev U r).toB = b := by
  unfold Ks.ask at ha
  split at ha
  · rename_i b' hl
    cases ha
    exact look_ok h.cs hl
  · exact decI_ok h.env h.T ha

theorem allTrueI_ret {K : Ks} {x : SV} (h : allTrueI m K (.ret x) = true) : x = .bool (.b true) := by
  unfold allTrueI at h
  split at h <;> simp_all

theorem allTrueI_chk {K : Ks} {c : E} {t : Tree SV} (h : allTrueI m K (.chk c t) = true) : ∃ i e, c = .o2 .fsame (.v i) e ∧ m ≤ i ∧ e.under m = true ∧ allTrueI (i + 1) (K.name i e) t = true := by
  unfold allTrueI at h
  split at h
  · rename_i h'; cases h'
  · rename_i h'; cases h'
  · rename_i i e t' h'
    cases h'
    rw [Bool.and_eq_true, Bool.and_eq_true] at h
    exact ⟨i, e, rfl, Nat.le_of_ble_eq_true h.1, h.2.1, h.2.2⟩
  · cases h

theorem allTrueI_lets (hQ : ∀ w', Frm (fun _ => False) w w' → Q (.bool true) w') : ∀ {t : Tree SV} {m : Nat} {K : Ks} {r : Nat → D}, allTrueI m K t = true → KsOk U r m K → Lets U Q w m r t := by
  intro t
  induction t with
  | ret x =>
    intro m K r h _ g' L' v w' hf hd
    obtain rfl := allTrueI_ret h
    simp only [SV.den, E.ev, D.toB] at hd
    subst hd
    exact hQ w' hf
  | ite c t e iht ihe =>
    intro m K r h hK
    unfold allTrueI at h
    rw [Bool.and_eq_true] at h
    obtain ⟨hc, h⟩ := h
    refine ⟨hc, ?_⟩
    have hn := normP_ok hK.env c
    have hnu := normP_under hK.envU hc
    generalize hx0 : normP K.env c = xs at h hn hnu
    obtain ⟨x, s⟩ := xs
    dsimp only at h hn hnu
    cases ha : K.ask x with
    | some b =>
      rw [ha] at h
      dsimp only at h
      have hb := ask_ok hK ha
      rw [hb] at hn
      rw [hn]
      cases hbs : b == s with
      | true => rw [hbs] at h; exact ⟨fun _ => iht h hK, fun h' => (by cases h')⟩
      | false => rw [hbs] at h; exact ⟨fun h' => (by cases h'), fun _ => ihe h hK⟩
    | none =>
      rw [ha] at h
      dsimp only at h
      simp only [Bool.and_eq_true, Bool.or_eq_true] at h
      constructor
      · intro hb
        have hx : (x.ev U r).toB = s := by rw [hn] at hb; simpa using hb
        have hi := implied_ok hK hx
        rcases h.1 with h1 | h1
        · exact (against_ok hK hi h1).elim
        · exact iht h1 (learn_ok hK hi (implied_under hK hnu))
      · intro hb
        have hx : (x.ev U r).toB = !s := by
          rw [hn] at hb
          cases h1 : (x.ev U r).toB <;> cases s <;> rw [h1] at hb <;> first | rfl | cases hb
        have hi := implied_ok hK hx
        rcases h.2 with h1 | h1
        · exact (against_ok hK hi h1).elim
        · exact ihe h1 (learn_ok hK hi (implied_under hK hnu))
  | chk c t ih =>
    intro m K r h hK
    obtain ⟨i, e, hc, hm, hu, h⟩ := allTrueI_chk h
    exact ⟨i, e, hc, hm, hu, ih h (name_ok hK hm hu)⟩
  | all i t ih => intro m K r h; simp [allTrueI] at h
  | asm e t ih => intro m K r h; simp [allTrueI] at h
  | bad => intro m K r h; simp [allTrueI] at h

/-! ### The arguments are words -/

def skWf : Nat → List Sk → List (Nat × FloatKind)
  | _, [] => []
  | i, .f k :: l => (i, k) :: skWf (i + 1) l
  | i, _ :: l => skWf (i + 1) l

def ptWf : Nat → List Pt → List (Nat × FloatKind)
  | _, [] => []
  | i, .one k :: l => skWf i [k] ++ ptWf (i + 1) l
  | i, .ag ks :: l => skWf i ks ++ ptWf (i + ks.length) l

theorem skWf_ok {g : Gh} {L : Nat → Prop} : ∀ {ks : List Sk} {i : Nat} {vs : List Value}, SV.denL U r g L (skGo i ks) vs → WfsOk r (skWf i ks) := by
  intro ks
  induction ks with
  | nil => intro i vs _ p hp; cases hp
  | cons k ks ih =>
    intro i vs h
    cases vs with
    | nil => simp [skGo, SV.denL] at h
    | cons v vs =>
      simp only [skGo, SV.denL] at h
      have ht := ih h.2
      cases k with
      | f k =>
        intro p hp
        rcases List.mem_cons.1 hp with rfl | hp
        · have h1 := h.1
          simp only [skSV, SV.den, E.ev] at h1
          obtain ⟨b, _, h2, h3⟩ := h1
          exact ⟨b, h2, h3⟩
        · exact ht p hp
      | b => exact ht
      | i k => exact ht
      | s => exact ht

theorem ptWf_ok {g : Gh} {L : Nat → Prop} : ∀ {ps : List Pt} {i : Nat} {vs : List Value}, SV.denL U r g L (ptGo i ps) vs → WfsOk r (ptWf i ps) := by
  intro ps
  induction ps with
  | nil => intro i vs _ p hp; cases hp
  | cons q ps ih =>
    intro i vs h
    cases q with
    | one k =>
      cases vs with
      | nil => simp [ptGo, SV.denL] at h
      | cons v vs =>
        simp only [ptGo, SV.denL] at h
        have h0 : SV.denL U r g L (skGo i [k]) [v] := by simp only [skGo, SV.denL]; exact ⟨h.1, trivial⟩
        intro p hp
        rcases List.mem_append.1 hp with hp | hp
        · exact skWf_ok h0 p hp
        · exact ih h.2 p hp
    | ag ks =>
      cases vs with
      | nil => simp [ptGo, SV.denL] at h
      | cons v vs =>
        simp only [ptGo, SV.denL, SV.den] at h
        obtain ⟨⟨xs, _, h0⟩, h1⟩ := h
        intro p hp
        rcases List.mem_append.1 hp with hp | hp
        · exact skWf_ok h0 p hp
        · exact ih h1 p hp

def lowWf (l : List (Nat × FloatKind)) : Bool := l.all fun p => Nat.blt p.1 1000

/-- A law by its walk, shut. -/
structure LawIs (U : Nat → D → D) (T : Tree SV) (ps : List Pt) : Prop where
  ok : LawOk U T ps

theorem law_of_I {T : Tree SV} {ps : List Pt} (hl : lowWf (ptWf 0 ps) = true) (h : allTrueI 1000 ⟨[], ptWf 0 ps, [], [], []⟩ T = true) : LawIs U T ps := by
  refine ⟨?_⟩
  rintro r _ _ ⟨_, _, _, hd⟩ hK
  have hlow : ∀ p ∈ ptWf 0 ps, p.1 < 1000 := by
    intro p hp
    unfold lowWf at hl
    rw [List.all_eq_true] at hl
    have := hl p hp
    rwa [Nat.blt_eq] at this
  exact allTrueI_lets hK h ⟨fun _ h => (by cases h), fun _ h => (by cases h), ptWf_ok hd, hlow, TOk.nil, TUnder.nil, fun _ h => (by cases h), fun _ h => (by cases h), TOk.nil, TUnder.nil⟩
end

section
open Go.ChangeShapes Go.WideShapes Go.RowKit
variable {H : Type} {enc : TypeId × Value → H}
/-- A ROW: from a walk whose tree answers true. -/
theorem row_lawI {C : Checked} {os : Os} {U : Nat → D → D} {cf : FuncId → List SV → Cx → Tree (SV × Cx)} {f : FuncId} {fn : Func} {body : Code} {ps : List Pt} {rt : TypeId} {s : ChangeSpec} {fresh handsOn again : Bool}
    (own : ownKnob C.prog.godebug = none) (hl : laidOutB C.prog = true) (started : os.Started) (noInit : C.prog.inits.idxOf? f = none) (hn : NamesOk C.prog) (hcf : CallsOk U C.prog cf)
    (hfn : C.prog.funcs[f]? = some fn) (hbody : fn.body = some body) (hrt : fn.resultTypes = #[rt]) (hrb : C.prog.underlying rt = some .bool)
    (hr : (fn.params.toList.all fun t => C.prog.readableRec t && decide (t < C.prog.types.size)) = true) (hvars : s.vars = [])
    (hs : ∀ ds : List (DataW H), ds.length = fn.params.size → s.fn H ds = { results := [.lit (.bool true)], args := ds })
    (witness : ∃ (w : World) (tape : Tape) (i : Input), w.os = os ∧ (w.forCall tape i).Shaped C.prog ∧ i.vars = [] ∧ Input.okWide C.prog (w.forCall tape i) .any w.heap.size f i ∧
      s.pre6 enc C.prog fn [] false (w.forCall tape i).memory i.args ∧ ({} : Assume).holds C.prog (lone (Frame.enter C.prog f i.args .normal) [] (w.forCall tape i)))
    (hps : ptsOf C.prog fn.params.toList = some ps) (hu : SV.underL 1000 (ptGo 0 ps) = true) (hT : LawIs U (resT (cf f (ptGo 0 ps) cx0)) ps) :
    ReturnsInHanded {} C os f .any (s.pre6 enc C.prog fn [] false) (s.post enc C.prog fn false fresh handsOn again) :=
  row_goal (U := U) own hl started noInit hn hfn hbody hrt hrb hr hvars hs witness hps fun _ _ _ _ hd => law_goal hcf hu hT.ok hd
end
end Go.Sx
