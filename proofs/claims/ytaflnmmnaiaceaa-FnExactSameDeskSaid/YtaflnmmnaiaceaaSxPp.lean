/-
  Sx, part Pp: walks of functions whose loops are told.
-/
import Derived.Test.YtaflnmmnaiaceaaSxPo
namespace Go.Sx
open E (mk1 mk2 mkIte mk1_ev mk2_ev mkIte_ev)

/-- A loop that is told: which way out it takes, and what it leaves, as words over what stood at its head. -/
structure LRun where
  loop : LoopT
  tag : List E → E
  res : Nat → List E → List E
  ent : List E := []

def LRun.outLeaf (R : LRun) (bls : List Nat) (es : List E) (k : Nat) (o : Ex × Tmpl) (c : Cx) : Tree (Ex × St) :=
  .ret (o.1, ⟨outTm c.h R.loop.t o.2 bls (R.res k es), ⟨newH c.h R.loop.t o.2 bls (R.res k es), c.nv, c.pc⟩⟩)

def LRun.outTree (R : LRun) (bls : List Nat) (es : List E) : Nat → List (Ex × Tmpl) → Cx → Tree (Ex × St)
  | _, [], _ => .bad
  | k, [o], c => R.outLeaf bls es k o c
  | k, o :: p :: l, c => br c (mk2 .ieq (R.tag es) (.i k)) (R.outLeaf bls es k o) (R.outTree bls es (k + 1) (p :: l))

def holdAll (inv : List E) (es : List E) (pc : List (E × Bool)) : Bool := inv.all fun e => match e.sub (numbered 0 es) with
  | some e' => sure e' pc
  | none => false

/-- How many variables a pattern has. -/
def Tmpl.cnt (t : Tmpl) : Nat := varOf t.at0 t.blks t.blks.length

def LRun.run (R : LRun) (S : St) : Option (Tree (Ex × St)) :=
  match R.loop.t.fit S with
  | some (es, bls) => if Nat.beq es.length R.loop.t.cnt && (holdAll R.loop.inv es S.c.pc && holdAll R.ent es S.c.pc) then some (R.outTree bls es 0 R.loop.outs S.c) else none
  | none => none

/-- The rows of a pattern whose elements are known to be whole. -/
def isSlo (b : Nat) : LP → Bool
  | .slo b' _ => Nat.beq b' b
  | _ => false
def isPtr (b : Nat) : LP → Bool
  | .ptr b' _ => Nat.beq b' b
  | _ => false

def Tmpl.sees (t : Tmpl) (b : Nat) : Bool :=
  (match t.blks[b]? with
    | some x => x.wr
    | none => false) || (apartN (t.slots.map (·.1)) && t.slots.any fun p => isSlo b p.2) ||
  (apartN (t.slots.map (·.1)) && (List.range t.blks.length).any fun i => (t.slots.any fun p => isPtr i p.2) && (match t.blks[i]? with
    | some x => x.cs.any (isSlo b)
    | none => false))

/-- Elements are whole. -/
def ShapeOk (t : Tmpl) (ds : List D) : Prop := ∀ (b : Nat) (x : BP) (ks : List Sk), t.blks[b]? = some x → x.row = some ks → t.sees b = true → ∀ d ∈ (rOf ds b).toL, ∃ fs, d = .l fs ∧ fs.length = ks.length

def LRunOk (U : Nat → D → D) (P : Program) (b : Code) (R : LRun) : Prop :=
  ∀ (S : St) (T : Tree (Ex × St)) (L : Nat → Prop) (r : Nat → D) (g : Gh) (a : Act) (w : World) (Q : Exit → Act → World → Prop), R.run S = some T →
    HeapDen U r g L S.c.h w → PcOk U r S.c.pc → Slots U r g L S.tmps a → T.sat U (EPost U L r g S.c w Q) r → (Code.loop b).wp P Q a w

/-- What is to be shown of a loop that is told. -/
def Told (U : Nat → D → D) (T : Tree LRes) (R : LRun) : Prop :=
  ∀ (r : Nat → D) (es : List E), es.length = R.loop.t.cnt → HoldI U R.loop.inv (es.map (E.ev U r)) → HoldI U R.ent (es.map (E.ev U r)) → ShapeOk R.loop.t (es.map (E.ev U r)) →
    ∃ k os, LoopTo U R.loop.inv T (es.map (E.ev U r)) k os ∧ ((R.tag es).ev U r).toI = k ∧ ∀ (e : Ex) (to : Tmpl), R.loop.outs[k]? = some (e, to) → ∀ j, EqAt to.blks.length j (rOf os j) ((nmOf (R.res k es) j).ev U r)

section
variable {U : Nat → D → D} {L : Nat → Prop} {r : Nat → D} {g : Gh} {w w' : World} {P : Program} {a : Act}

theorem lkM_back : ∀ {l : List E} {i n : Nat} {e : E}, lkM n (numbered i l) = some e → ∃ j, n = i + j ∧ l[j]? = some e := by
  intro l
  induction l with
  | nil => intro i n e h; simp [numbered, lkM] at h
  | cons a l ih =>
    intro i n e h
    unfold numbered lkM at h
    cases hb : Nat.beq i n with
    | true =>
      rw [hb] at h
      simp only [cond_true, Option.some.injEq] at h
      exact ⟨0, (Nat.eq_of_beq_eq_true hb).symm, by simp [h]⟩
    | false =>
      rw [hb] at h
      simp only [cond_false] at h
      obtain ⟨j, h1, h2⟩ := ih h
      exact ⟨j + 1, by omega, by simpa using h2⟩

theorem fills_rOf (es : List E) : Fills U r (rOf (es.map (E.ev U r))) (numbered 0 es) := by
  intro n e h
  obtain ⟨j, rfl, h2⟩ := lkM_back h
  rw [Nat.zero_add, evs_rOf]
  unfold nmOf
  rw [List.getD_eq_getElem?_getD, h2]; rfl

theorem holdAll_ok {inv es : List E} {pc : List (E × Bool)} (hp : PcOk U r pc) (h : holdAll inv es pc = true) : HoldI U inv (es.map (E.ev U r)) := by
  intro e he
  unfold holdAll at h
  rw [List.all_eq_true] at h
  have := h e he
  split at this
  · rename_i e' hs
    rw [← E.sub_ev (fills_rOf es) hs]
    exact sure_ok hp this
  · cases this

theorem lkp_of {nm : Nat → E} {bl : Nat → Nat} : ∀ {l : List (Tmp × LP)} {i n : Nat} {p : Tmp × LP}, apartN (l.map (·.1)) = true → l[n]? = some p → ∃ j, lkp p.1 (slotsSV nm bl i l) = lpSV nm bl j p.2 := by
  intro l
  induction l with
  | nil => intro i n p _ h; simp at h
  | cons q l ih =>
    intro i n p ha h
    simp only [List.map_cons, apartN, Bool.and_eq_true, List.all_eq_true] at ha
    cases n with
    | zero =>
      simp at h
      subst h
      exact ⟨i, by simp [slotsSV, lkp]⟩
    | succ n =>
      have h : l[n]? = some p := by simpa using h
      obtain ⟨j, hj⟩ := ih (i := i + lpN q.2) ha.2 h
      refine ⟨j, ?_⟩
      have : Nat.beq q.1 p.1 = false := by
        have := ha.1 p.1 (List.mem_map.2 ⟨p, List.mem_of_getElem? h, rfl⟩)
        simpa using this
      simp only [slotsSV, lkp, this, cond_false]
      exact hj

theorem lpsSV_mem {nm : Nat → E} {bl : Nat → Nat} : ∀ {l : List LP} {i n : Nat} {p : LP}, l[n]? = some p → ∃ j, (lpsSV nm bl i l)[n]? = some (lpSV nm bl j p) := by
  intro l
  induction l with
  | nil => intro i n p h; simp at h
  | cons q l ih =>
    intro i n p h
    cases n with
    | zero => simp at h; subst h; exact ⟨i, by simp [lpsSV]⟩
    | succ n =>
      obtain ⟨j, hj⟩ := ih (i := i + lpN q) (by simpa using h)
      exact ⟨j, by simpa [lpsSV] using hj⟩

/-- A slice of a row that is known: its elements are whole. -/
theorem slo_shape {t : Tmpl} {ds : List D} (hd : StDen U t E.v id (rOf ds) g L a w) {b sz : Nat} {x : BP} {ks : List Sk} {i : Nat} {v : Value} (hx : t.blks[b]? = some x) (hk : x.row = some ks)
    (h : (lpSV E.v id i (.slo b sz)).den U (rOf ds) g L v) : ∀ d ∈ (rOf ds b).toL, ∃ fs, d = .l fs ∧ fs.length = ks.length := by
  simp only [lpSV, SV.den, mk1_ev] at h
  obtain ⟨h0, base, c, hv, h3, h4⟩ := h
  have hlen : (O1.llen.ev (E.ev U (rOf ds) (E.v b))).toI.toNat = (rOf ds b).toL.length := by
    show ((((rOf ds b).toL.length : Nat) : Int)).toNat = _
    omega
  rcases h4 with h5 | ⟨hl, _, _⟩
  · intro d hmem
    have : (rOf ds b).toL = [] := by
      apply List.eq_nil_of_length_eq_zero; omega
    rw [this] at hmem; cases hmem
  · intro d hmem
    have hb := hd.blk b x hx hl
    obtain ⟨xs, t', fz, e1, e2, e3, e4, e5, e6⟩ := hb.cells
    have := e6 ks (E.v b) (by simp [bpSB, hk])
    obtain ⟨i, hi, rfl⟩ := List.getElem_of_mem hmem
    exact (this i _ (List.getElem?_eq_getElem hi)).1

theorem shapes_of {t : Tmpl} {ds : List D} (hd : StDen U t E.v id (rOf ds) g L a w) : ShapeOk t ds := by
  intro b x ks hx hk hs
  simp only [Tmpl.sees, hx, Bool.or_eq_true, Bool.and_eq_true, List.any_eq_true] at hs
  rcases hs with (hs | ⟨h1, p, h2, h3⟩) | ⟨h1, i, h2, ⟨p, h3, h4⟩, h5⟩
  · have hl := hd.live b x hx hs
    have hb := hd.blk b x hx hl
    obtain ⟨xs, t', fz, e1, e2, e3, e4, e5, e6⟩ := hb.cells
    have := e6 ks (E.v b) (by simp [bpSB, hk])
    intro d hmem
    obtain ⟨i, hi, rfl⟩ := List.getElem_of_mem hmem
    exact (this i _ (List.getElem?_eq_getElem hi)).1
  · obtain ⟨n, hn, rfl⟩ := List.getElem_of_mem h2
    obtain ⟨j, hj⟩ := lkp_of (nm := E.v) (bl := id) (i := t.blks.length) h1 (List.getElem?_eq_getElem hn)
    have := hd.slot t.slots[n].1
    rw [hj] at this
    cases hp : t.slots[n].2 with
    | slo b' sz =>
      rw [hp] at h3 this
      have := Nat.eq_of_beq_eq_true h3
      subst this
      exact slo_shape hd hx hk (by assumption)
    | _ => rw [hp] at h3; simp [isSlo] at h3
  · obtain ⟨n, hn, rfl⟩ := List.getElem_of_mem h3
    obtain ⟨j, hj⟩ := lkp_of (nm := E.v) (bl := id) (i := t.blks.length) h1 (List.getElem?_eq_getElem hn)
    have hsl := hd.slot t.slots[n].1
    rw [hj] at hsl
    cases hp : t.slots[n].2 with
    | ptr b' off =>
      rw [hp] at h4 hsl
      have := Nat.eq_of_beq_eq_true h4
      subst this
      simp only [lpSV, SV.den] at hsl
      split at h5
      · rename_i y hy
        rw [List.any_eq_true] at h5
        obtain ⟨q, hq, h6⟩ := h5
        obtain ⟨m, hm, rfl⟩ := List.getElem_of_mem hq
        have hb := hd.blk _ y hy hsl.1
        obtain ⟨xs, t', fz, e1, e2, e3, e4, e5, e6⟩ := hb.cells
        obtain ⟨j', hj'⟩ := lpsSV_mem (nm := E.v) (bl := id) (i := varOf t.at0 t.blks b') (List.getElem?_eq_getElem hm)
        obtain ⟨v, _, hdv⟩ := e5 m _ hj'
        cases hp' : y.cs[m] with
        | slo b'' sz =>
          rw [hp'] at h6 hdv
          have := Nat.eq_of_beq_eq_true h6
          subst this
          exact slo_shape hd hx hk hdv
        | _ => rw [hp'] at h6; simp [isSlo] at h6
      · cases h5
    | _ => rw [hp] at h4; simp [isPtr] at h4

theorem outTree_sat {R : LRun} {bls : List Nat} {es : List E} {Q : (Nat → D) → Ex × St → Prop} : ∀ {l : List (Ex × Tmpl)} {k n : Nat} {c : Cx} {o : Ex × Tmpl}, PcOk U r c.pc → ((R.tag es).ev U r).toI = n → k ≤ n → l[n - k]? = some o →
    (R.outTree bls es k l c).sat U Q r → ∃ pc, PcOk U r pc ∧ (R.outLeaf bls es n o { c with pc := pc }).sat U Q r := by
  intro l
  induction l with
  | nil => intro k n c o _ _ _ h; simp at h
  | cons x l ih =>
    intro k n c o hp hn hk ho h
    cases l with
    | nil =>
      have h0 : n - k = 0 := by
        have := (List.getElem?_eq_some_iff.1 ho).1; simp at this; omega
      rw [h0] at ho
      simp at ho
      subst ho
      have : n = k := by omega
      subst this
      exact ⟨c.pc, hp, h⟩
    | cons y l =>
      simp only [LRun.outTree] at h
      obtain ⟨pc, hp', h | h⟩ := br_sat hp h
      · have h1 := h.1
        rw [mk2_ev] at h1
        have h1 : ((R.tag es).ev U r).toI = ((k : Nat) : Int) := by simpa [O2.ev, E.ev, D.toI_i, D.toB_b] using h1
        have : n = k := by omega
        subst this
        rw [Nat.sub_self] at ho
        simp at ho
        subst ho
        exact ⟨pc, hp', h.2⟩
      · have h1 := h.1
        rw [mk2_ev] at h1
        have h1 : ((R.tag es).ev U r).toI ≠ ((k : Nat) : Int) := by simpa [O2.ev, E.ev, D.toI_i, D.toB_b] using h1
        have hlt : k < n := by omega
        exact ih (k := k + 1) (c := { c with pc := pc }) hp' hn hlt (by rw [show n - k = (n - (k + 1)) + 1 by omega] at ho; simpa using ho) h.2

/-- A LOOP THAT IS TOLD. -/
theorem lrun_ok {b : Code} {ex : St → Tree (Ex × St)} {R : LRun} (hex : BodyOk U P b ex) (hwf : R.loop.wf = true) (hok : okA 1000 (mapT R.loop.leaf (ex R.loop.s0)) = true) (htold : Told U (mapT R.loop.leaf (ex R.loop.s0)) R) : LRunOk U P b R := by
  intro S T L r g a w Q hrun hh hp hs hsat
  have hW := LoopT.wf_ok hwf
  unfold LRun.run at hrun
  split at hrun
  · rename_i es bls hfit
    split at hrun
    · rename_i hinv
      rw [Bool.and_eq_true, Bool.and_eq_true] at hinv
      obtain ⟨hcnt, hinv, hent⟩ := hinv
      have hcnt := Nat.eq_of_beq_eq_true hcnt
      cases hrun
      have hf := Tmpl.fits_ok (Tmpl.fit_fits hfit)
      have hown := fits_own hW.t hf hh hs
      obtain ⟨k, os, hto, htag, hres⟩ := htold r es hcnt (holdAll_ok hp hinv) (holdAll_ok hp hent) (shapes_of hown)
      obtain ⟨e, to, hout, N, hrounds⟩ := loop_chain hex hW hok hto
      obtain ⟨o1, o2, o3, o4⟩ := hW.outs _ _ _ hout
      refine wp_loop_rounds N (hrounds _ _ a w (fun j hj => hj.1) hown Q fun g' L' a' w' hL' hst hrel => ?_)
      obtain ⟨pc, hp', hleaf⟩ := outTree_sat hp htag (Nat.zero_le k) (by rw [Nat.sub_zero]; exact hout) hsat
      obtain ⟨gf, hext, hsl⟩ := loop_out (S := S) (es := R.res k es) hh hp' hf hW.t o1 o3 o4 hst hrel (hres _ _ hout)
      exact hleaf gf a' w' hext hsl
    · cases hrun
  · cases hrun

/-! ### Walks with told loops -/

def firstRegion : Code → Option Nat
  | .region id _ _ => some id
  | .seq x y => match firstRegion x with
    | some n => some n
    | none => firstRegion y
  | .cond _ x y => match firstRegion x with
    | some n => some n
    | none => firstRegion y
  | .block _ b => firstRegion b
  | .loop b => firstRegion b
  | .scope b => firstRegion b
  | _ => none

abbrev Loops := Nat → Option LRun
def Loops.at_ (lo : Loops) (b : Code) : Option LRun := match firstRegion b with
  | some n => lo n
  | none => none

def execL (P : Program) (ct : Contracts) (lo : Loops) : Nat → Code → St → Tree (Ex × St)
  | 0, _, _ => .bad
  | n + 1, code, S =>
    match code with
    | .skip => .ret (.normal, S)
    | .region _ ops draw => (regionX P (callX P ct (exec P ct n)) ops draw S).bind fun S' => .ret (.normal, S')
    | .seq x y => (execL P ct lo n x S).bind fun z =>
      match z.1 with
      | .normal => execL P ct lo n y z.2
      | e => .ret (e, z.2)
    | .cond x t f =>
      match evS S.tmps x with
      | .bool e => br S.c e (fun c => execL P ct lo n t ⟨S.tmps, c⟩) (fun c => execL P ct lo n f ⟨S.tmps, c⟩)
      | _ => .bad
    | .block id b => (execL P ct lo n b S).bind fun z =>
      match z.1 with
      | .exit j => .ret (if j = id then .normal else .exit j, z.2)
      | e => .ret (e, z.2)
    | .loop b => match lo.at_ b with
      | some R => (match R.run S with
        | some T => T
        | none => loopX (execL P ct lo n b) n S)
      | none => loopX (execL P ct lo n b) n S
    | .scope b => execL P ct lo n b S
    | .exit id => .ret (.exit id, S)
    | .ret => .ret (.ret, S)
    | _ => .bad

def loopsOf : Code → List Code
  | .seq x y => loopsOf x ++ loopsOf y
  | .cond _ x y => loopsOf x ++ loopsOf y
  | .block _ b => loopsOf b
  | .loop b => b :: loopsOf b
  | .scope b => loopsOf b
  | _ => []

def LoopsOk (U : Nat → D → D) (P : Program) (lo : Loops) (code : Code) : Prop := ∀ b ∈ loopsOf code, ∀ R, lo.at_ b = some R → LRunOk U P b R

variable {Q : Exit → Act → World → Prop}

theorem execL_ok {ct : Contracts} {lo : Loops} (hm : P.follows .mixedOrders = true) (hn : NamesOk P) (hct : ContractsOk U P ct) : ∀ (n : Nat) (code : Code), LoopsOk U P lo code → BodyOk U P code (execL P ct lo n code) := by
  intro n
  induction n with
  | zero => intro code _ S L r g a w Q _ _ _ h; exact h.elim
  | succ n ih =>
    intro code hlo S L r g a w Q hh hp hs h
    cases code <;> simp only [execL] at h <;> (try exact h.elim)
    case skip => exact wp_skip (EPost.here h hh hp hs)
    case region id ops draw =>
      rw [Tree.sat_bind] at h
      refine regionX_ok hm (callX_ok hn hct (exec_ok hm hn hct n)) hh hp hs (Tree.sat_mono ?_ h)
      intro r' S' hx g' a' w' he hs'
      exact hx g' a' w' he hs'
    case seq x y =>
      rw [Tree.sat_bind] at h
      refine wp_seq (ih x (fun b hb => hlo b (by simp [loopsOf, hb])) S L r g a w _ hh hp hs (Tree.sat_mono ?_ h))
      intro r' z hz g' a' w' he hs'
      cases hz1 : z.1 with
      | normal =>
        rw [hz1] at hz
        exact ih y (fun b hb => hlo b (by simp [loopsOf, hb])) z.2 (Lx L S.c.h z.2.c.h) r' g' a' w' Q he.heap he.pc hs' (Tree.sat_mono (fun _ _ hy => hy.shift he) hz)
      | exit id => rw [hz1] at hz; exact hz g' a' w' he hs'
      | ret => rw [hz1] at hz; exact hz g' a' w' he hs'
    case cond x t f =>
      split at h
      · rename_i e he
        have hx := hs.ev x
        rw [he] at hx
        simp only [SV.den] at hx
        obtain ⟨pc, hp', h | h⟩ := sat_br hp h
        · refine wp_cond hx ?_
          rw [h.1]
          exact ih t (fun b hb => hlo b (by simp [loopsOf, hb])) ⟨S.tmps, { S.c with pc := pc }⟩ L r g a w Q hh hp' hs (Tree.sat_mono (fun _ _ hy => fun g' a' w' he hs' => hy g' a' w' he.pcs hs') h.2)
        · refine wp_cond hx ?_
          rw [h.1]
          exact ih f (fun b hb => hlo b (by simp [loopsOf, hb])) ⟨S.tmps, { S.c with pc := pc }⟩ L r g a w Q hh hp' hs (Tree.sat_mono (fun _ _ hy => fun g' a' w' he hs' => hy g' a' w' he.pcs hs') h.2)
      · exact h.elim
    case block id b =>
      rw [Tree.sat_bind] at h
      refine wp_block (ih b (fun b hb => hlo b (by simpa [loopsOf] using hb)) S L r g a w _ hh hp hs (Tree.sat_mono ?_ h))
      intro r' z hz g' a' w' he hs'
      cases hz1 : z.1 with
      | normal => rw [hz1] at hz; exact hz g' a' w' he hs'
      | exit j =>
        rw [hz1] at hz
        have := hz g' a' w' he hs'
        show Exit.inBlock id Q (.exit j) a' w'
        unfold Exit.inBlock
        dsimp only at this ⊢
        split
        · rename_i hj; rw [if_pos hj] at this; exact this
        · rename_i hj; rw [if_neg hj] at this; exact this
      | ret => rw [hz1] at hz; exact hz g' a' w' he hs'
    case loop b =>
      have hb : BodyOk U P b (execL P ct lo n b) := ih b fun b' hb' => hlo b' (by simp [loopsOf, hb'])
      split at h
      · rename_i R hR
        split at h
        · rename_i T hT
          exact hlo b (by simp [loopsOf]) R hR S T L r g a w Q hT hh hp hs h
        · exact wp_loop_rounds n (loopX_ok hb n S L r g a w Q hh hp hs h)
      · exact wp_loop_rounds n (loopX_ok hb n S L r g a w Q hh hp hs h)
    case scope b =>
      refine wp_scope_straight (ih b (fun b hb => hlo b (by simpa [loopsOf] using hb)) S L r g a w _ hh hp hs (Tree.sat_mono ?_ h))
      intro r' z hz g' a' w' he hs'
      have := hz g' a' w' he hs'
      cases hz1 : z.1 with
      | normal => rw [hz1] at this; exact this
      | exit j => rw [hz1] at this; exact this
      | ret => rw [hz1] at this; exact this
    case exit id => exact wp_exit (EPost.here h hh hp hs)
    case ret => exact wp_ret (EPost.here h hh hp hs)

/-- The walk of a function's text, its loops told. -/
def textL (P : Program) (ct : Contracts) (lo : Loops) (n : Nat) (fn : Func) (body : Code) (args : List SV) (c : Cx) : Tree (SV × Cx) :=
  (execL P ct lo n body ⟨argTm args fn.ntmps, c⟩).bind (resX P fn)

theorem text_ok {f : FuncId} {fn : Func} {body : Code} {ex : St → Tree (Ex × St)} (hn : NamesOk P) (hf : P.funcs[f]? = some fn) (hb : fn.body = some body) (hex : BodyOk U P body ex) :
    EntryOk U P f fun args c => (ex ⟨argTm args fn.ntmps, c⟩).bind (resX P fn) := by
  intro args c L r g w vs K hh hp hd h
  dsimp only at h
  rw [Tree.sat_bind] at h
  refine callGoal_of hn hf hb (calls_of_wp hf hb ?_)
  have hl := SV.denL_length U r g L hd
  simp only [Array.length_toList] at hl
  refine hex _ L r g _ w _ hh hp ?_ (Tree.sat_mono ?_ h)
  · refine ⟨rfl, by simp [argTm, hl], fun t => ?_⟩
    show SV.den U r g L ((argTm args fn.ntmps).get t) _
    rw [argTm_get]
    cases ht : args[t]? with
    | none => rw [List.getD_eq_getElem?_getD, ht]; trivial
    | some s =>
      obtain ⟨v, hv, hd'⟩ := SV.denL_get U r g L hd ht
      rw [List.getD_eq_getElem?_getD, ht, Array.getD_eq_getD_getElem?]
      have hlt : t < vs.size := by have := (List.getElem?_eq_some_iff.1 hv).1; simpa using this
      have hv' : (vs ++ Array.replicate (fn.ntmps - vs.size) undef)[t]? = some v := by
        rw [Array.getElem?_append_left hlt]; simpa using hv
      rw [hv']; exact hd'
  · intro r' x hx g' a' w' he hs
    unfold resX at hx
    have fin : ∀ {ss}, resS P x.2 fn.results.toList = some ss → Post U L r g c w K r' (oneOf ss, x.2.c) → a'.defers = [] ∧ ∃ v, (results fn a'.tmps).run P w' = .ok v w' ∧ ∃ v', Ending.returned v = Ending.returned v' ∧ K v' w' := by
      intro ss hss hpost
      obtain ⟨v, h1, h2⟩ := results_run (fn := fn) (tmps := a'.tmps) he.heap hs.at_ hss
      exact ⟨hs.defers, v, h1, v, rfl, hpost g' v w' he h2⟩
    cases hx1 : x.1 with
    | exit id => rw [hx1] at hx; exact hx.elim
    | normal =>
      rw [hx1] at hx
      dsimp only at hx
      split at hx
      · rename_i ss hss; exact fin hss hx
      · exact hx.elim
    | ret =>
      rw [hx1] at hx
      dsimp only at hx
      split at hx
      · rename_i ss hss; exact fin hss hx
      · exact hx.elim

theorem textL_entry {f : FuncId} {fn : Func} {body : Code} {ct : Contracts} {lo : Loops} {n : Nat} (hm : P.follows .mixedOrders = true) (hn : NamesOk P) (hct : ContractsOk U P ct) (hf : P.funcs[f]? = some fn) (hb : fn.body = some body)
    (hlo : LoopsOk U P lo body) : EntryOk U P f (textL P ct lo n fn body) := text_ok hn hf hb (execL_ok hm hn hct n body hlo)
end
end Go.Sx
