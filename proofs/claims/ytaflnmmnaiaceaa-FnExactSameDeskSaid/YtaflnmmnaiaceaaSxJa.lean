/-
  Sx, part Ja: rows of any length: reading and writing elements, lengths.
-/
import Derived.Test.YtaflnmmnaiaceaaSxIb
namespace Go.Sx
open E (mk1 mk2 mkIte mk1_ev mk2_ev mkIte_ev)

def skSV : Sk → E → SV
  | .b, e => .bool e
  | .i k, e => .int k e
  | .f k, e => .flt k e
  | .s, e => .str e

section
variable {U : Nat → D → D} {L : Nat → Prop} {r : Nat → D} {g : Gh} {c : Cx} {w w' : World} {P : Program} {K : Value → World → Prop}

theorem skSV_iff {k : Sk} {e : E} {v : Value} : (skSV k e).den U r g L v ↔ k.den (e.ev U r) v := by
  cases k <;> simp only [skSV, SV.den, Sk.den]

/-- Is it known to be true? -/
def sure (e : E) (pc : List (E × Bool)) : Bool := match known e pc with
  | some x => x
  | none => false

theorem sure_ok {e : E} {pc : List (E × Bool)} (hp : PcOk U r pc) (h : sure e pc = true) : (e.ev U r).toB = true := by
  unfold sure at h
  split at h
  · rename_i x hx; rw [known_ok hp hx]; exact h
  · cases h

/-- A field of an element of a row: behind what has been put in. -/
def selF (pc : List (E × Bool)) (i : E) (f : Nat) : E → E
  | .o3 .upd a j x =>
    if i.same j && (sure (mk2 .ile (.i 0) i) pc && sure (mk2 .ilt i (mk1 .llen a)) pc) then mk2 .sel x (.i f)
    else if sure (mk2 .ile (.i 0) i) pc && (sure (mk2 .ile (.i 0) j) pc && sure (mk1 .not (mk2 .ieq i j)) pc) then selF pc i f a
    else mk2 .sel (mk2 .sel (.o3 .upd a j x) i) (.i f)
  | a => mk2 .sel (mk2 .sel a i) (.i f)

theorem selF_ev {pc : List (E × Bool)} (hp : PcOk U r pc) (i : E) (f : Nat) : ∀ a : E, (selF pc i f a).ev U r = ((a.ev U r).at_ (i.ev U r).toI.toNat).at_ f := by
  have plain : ∀ a : E, (mk2 .sel (mk2 .sel a i) (.i f)).ev U r = ((a.ev U r).at_ (i.ev U r).toI.toNat).at_ f := fun a => by
    rw [mk2_ev, mk2_ev]; rfl
  intro a
  induction a with
  | o3 o a j x iha _ _ =>
    cases o with
    | upd =>
      unfold selF
      split
      · rename_i h
        rw [Bool.and_eq_true, Bool.and_eq_true] at h
        obtain ⟨h1, h2, h3⟩ := h
        have e1 := E.same_eq h1
        subst e1
        have h2 := sure_ok hp h2
        have h3 := sure_ok hp h3
        rw [mk2_ev] at h2 h3
        rw [mk1_ev] at h3
        have h2 : (0 : Int) ≤ (i.ev U r).toI := of_decide_eq_true h2
        have h3 : (i.ev U r).toI < ((a.ev U r).toL.length : Int) := of_decide_eq_true h3
        rw [mk2_ev]
        simp only [O2.ev, E.ev, O3.ev, D.toI_i]
        show (x.ev U r).at_ f = _
        congr 1
        unfold D.at_
        rw [D.toL_l, List.getD_eq_getElem?_getD, List.getElem?_set_self (by omega)]; rfl
      · split
        · rename_i h
          rw [Bool.and_eq_true, Bool.and_eq_true] at h
          obtain ⟨h1, h2, h3⟩ := h
          have h1 := sure_ok hp h1
          have h2 := sure_ok hp h2
          have h3 := sure_ok hp h3
          rw [mk2_ev] at h1 h2
          rw [mk1_ev, mk2_ev] at h3
          have h1 : (0 : Int) ≤ (i.ev U r).toI := of_decide_eq_true h1
          have h2 : (0 : Int) ≤ (j.ev U r).toI := of_decide_eq_true h2
          have h3 : (i.ev U r).toI ≠ (j.ev U r).toI := by
            intro e
            simp only [O1.ev, O2.ev, D.toB_b, e, beq_self_eq_true, Bool.not_true] at h3
            cases h3
          rw [iha]
          congr 1
          simp only [E.ev, O3.ev]
          unfold D.at_
          rw [D.toL_l, List.getD_eq_getElem?_getD, List.getD_eq_getElem?_getD, List.getElem?_set_ne (by omega)]
        · exact plain _
    | _ => exact plain _
  | _ => exact plain _

/-- Some fields of an element. -/
def fieldsE (pc : List (E × Bool)) (a i : E) : Nat → List Sk → List SV
  | _, [] => []
  | f, k :: l => skSV k (selF pc i f a) :: fieldsE pc a i (f + 1) l

theorem fieldsE_length (pc : List (E × Bool)) (a i : E) : ∀ (l : List Sk) (f : Nat), (fieldsE pc a i f l).length = l.length := by
  intro l
  induction l with
  | nil => intro f; rfl
  | cons k l ih => intro f; simp [fieldsE, ih]

theorem fieldsE_get (pc : List (E × Bool)) (a i : E) : ∀ (l : List Sk) (f j : Nat) (s : SV), (fieldsE pc a i f l)[j]? = some s → ∃ k, l[j]? = some k ∧ s = skSV k (selF pc i (f + j) a) := by
  intro l
  induction l with
  | nil => intro f j s h; simp [fieldsE] at h
  | cons k l ih =>
    intro f j s h
    cases j with
    | zero => simp [fieldsE] at h; exact ⟨k, by simp, h.symm⟩
    | succ j =>
      simp only [fieldsE, List.getElem?_cons_succ] at h
      obtain ⟨k', h1, h2⟩ := ih (f + 1) j s h
      exact ⟨k', by simpa using h1, by rw [h2]; congr 2; omega⟩

/-- The row that a pointer into one goes into, its index surely within. -/
def rowAt (c : Cx) (id sz : Nat) (i : E) : Option (Bool × List Sk × E) :=
  match c.h[id]? with
  | some (some b) =>
    match b.row with
    | some (ks, a) => if ks.length = sz ∧ sure (mk2 .ilt i (mk1 .llen a)) c.pc = true then some (b.wr, ks, a) else none
    | none => none
  | _ => none

theorem rowAt_ok {id sz : Nat} {i : E} {wr : Bool} {ks : List Sk} {a : E} (hh : HeapDen U r g L c.h w) (hp : PcOk U r c.pc) (hl : L id) (h0 : 0 ≤ (i.ev U r).toI) (h : rowAt c id sz i = some (wr, ks, a)) :
    ks.length = sz ∧ ∃ b, c.h[id]? = some (some b) ∧ b.wr = wr ∧ b.row = some (ks, a) ∧ (i.ev U r).toI.toNat < (a.ev U r).toL.length ∧
      ∃ xs t fz, w.heap[g.a id]? = some (.cells xs t fz) ∧ xs.size = g.n id ∧ (wr = true → fz = (0, 0)) ∧ RowDen ks (a.ev U r).toL (g.o id) xs := by
  unfold rowAt at h
  split at h
  · rename_i b hb
    split at h
    · rename_i ks' a' hr
      split at h
      · rename_i hc
        cases h
        have h1 := sure_ok hp hc.2
        rw [mk2_ev, mk1_ev] at h1
        have h1 : (i.ev U r).toI < ((a.ev U r).toL.length : Int) := of_decide_eq_true h1
        obtain ⟨xs, t, fz, e1, e2, e3, e4, e5⟩ := hh.blk id b hl hb
        obtain ⟨ys, t', fz', k1, k2⟩ := hh.rows id b ks a hl hb hr
        rw [e1] at k1
        cases k1
        exact ⟨hc.1, b, hb, rfl, hr, by omega, xs, t, fz, e1, e2, e3, k2⟩
      · cases h
    · cases h
  · cases h

theorem RowDen.cell {ks : List Sk} {ds : List D} {o : Nat} {xs : Array Value} (h : RowDen ks ds o xs) {i f : Nat} {k : Sk} (hi : i < ds.length) (hk : ks[f]? = some k) :
    ∃ v, xs[o + (i * ks.length + f)]? = some v ∧ k.den ((D.at_ (.l ds) i).at_ f) v := by
  have := (h i ds[i] (List.getElem?_eq_getElem hi)).2 f k hk
  unfold D.at_ at this ⊢
  rw [D.toL_l, List.getD_eq_getElem?_getD (l := ds), List.getElem?_eq_getElem hi]
  exact this

theorem at_toL (d : D) (i : Nat) : D.at_ (.l d.toL) i = d.at_ i := rfl

def loadI (P : Program) (c : Cx) (t : TypeId) (id sz : Nat) (i : E) (f : Nat) : Option SV :=
  match rowAt c id sz i with
  | some (_, ks, a) =>
    match aggT P t with
    | some true =>
      match szT P t with
      | some n => if 0 < n ∧ f + n ≤ sz then some (.agg (fieldsE c.pc a i f ((ks.drop f).take n))) else none
      | none => none
    | some false => match ks[f]? with
      | some k => some (skSV k (selF c.pc i f a))
      | none => none
    | none => none
  | none => none

theorem loadI_ok {t : TypeId} {id sz f : Nat} {i : E} {s : SV} {vx : Value} (hh : HeapDen U r g L c.h w) (hp : PcOk U r c.pc) (hx : (SV.ptrI id sz i f).den U r g L vx) (h : loadI P c t id sz i f = some s) :
    ∃ ad v, vx = .pointer (some ad) ∧ (loadVar t ad).run P w = .ok v w ∧ s.den U r g L v := by
  simp only [SV.den] at hx
  obtain ⟨hl, h0, rfl⟩ := hx
  unfold loadI at h
  split at h
  · rename_i wr ks a hra
    obtain ⟨hks, b, hb, _, hr, hlt, xs, tt, fz, e1, e2, e3, hrow⟩ := rowAt_ok hh hp hl h0 hra
    have hcell : ∀ {f' : Nat} {k : Sk}, ks[f']? = some k → ∃ v, xs[g.o id + ((i.ev U r).toI.toNat * sz + f')]? = some v ∧ (skSV k (selF c.pc i f' a)).den U r g L v := by
      intro f' k hk
      obtain ⟨v, hv, hd⟩ := hrow.cell hlt hk
      rw [hks] at hv
      rw [at_toL] at hd
      exact ⟨v, hv, skSV_iff.2 (by rw [selF_ev hp]; exact hd)⟩
    split at h
    · rename_i ha
      split at h
      · rename_i n hs
        split at h
        · rename_i hle
          cases h
          have hlast : ∃ k, ks[f + (n - 1)]? = some k := ⟨ks[f + (n - 1)]'(by omega), List.getElem?_eq_getElem (by omega)⟩
          obtain ⟨kl, hkl⟩ := hlast
          obtain ⟨vl, hvl, _⟩ := hcell hkl
          have hsz : g.o id + ((i.ev U r).toI.toNat * sz + f) + n ≤ xs.size := by
            have := (Array.getElem?_eq_some_iff.1 hvl).1; omega
          refine ⟨_, .agg (xs.extract (g.o id + ((i.ev U r).toI.toNat * sz + f)) (g.o id + ((i.ev U r).toI.toNat * sz + f) + n)), rfl, run_loadVar_agg e1 ha hs hsz, _, rfl, ?_⟩
          refine SV.denL_of U r g L (by rw [fieldsE_length]; simp; omega) fun j s v h1 h2 => ?_
          obtain ⟨k, hk, rfl⟩ := fieldsE_get _ _ _ _ _ _ _ h1
          rw [List.getElem?_take] at hk
          split at hk
          · rename_i hj
            rw [List.getElem?_drop] at hk
            obtain ⟨v', hv', hd⟩ := hcell hk
            have : v = v' := by
              simp only [Array.toList_extract, List.extract_eq_take_drop, List.getElem?_take, List.getElem?_drop] at h2
              rw [if_pos (by omega), Array.getElem?_toList] at h2
              have e : g.o id + ((i.ev U r).toI.toNat * sz + f) + j = g.o id + ((i.ev U r).toI.toNat * sz + (f + j)) := by omega
              rw [e, hv'] at h2
              exact (Option.some.inj h2).symm
            subst this; exact hd
          · cases hk
        · cases h
      · cases h
    · rename_i ha
      split at h
      · rename_i k hk
        cases h
        obtain ⟨v, hv, hd⟩ := hcell hk
        exact ⟨_, v, rfl, run_loadVar_one e1 ha hv, hd⟩
      · cases h
    · cases h
  · cases h

def loadY (P : Program) (c : Cx) (t : TypeId) (x : SV) : Tree (SV × Cx) :=
  match x with
  | .ptrI id sz i f => match loadI P c t id sz i f with
    | some s => .ret (s, c)
    | none => .bad
  | x => loadX P c t x

theorem loadY_ok {t : TypeId} {x : SV} {vx : Value} (hh : HeapDen U r g L c.h w) (hp : PcOk U r c.pc) (hx : x.den U r g L vx) (h : (loadY P c t x).sat U (Post U L r g c w K) r) : VOk P (Instr.loadAt t vx) w K := by
  unfold loadY at h
  split at h
  · split at h
    · rename_i s hs
      obtain ⟨ad, v, rfl, h1, h2⟩ := loadI_ok hh hp hx hs
      refine ⟨v, w, ?_, Post.same h hh hp (Same.refl w) h2⟩
      simp only [Instr.loadAt, Instr.sureAddr, Sem.run_bind, Sem.run_pure, Result.andThen_ok]
      exact h1
    · exact h.elim
  · exact loadX_ok hh hp hx h

/-! ### Writing -/

/-- The words of plain cells. -/
def wordsOf : List Sk → List SV → Option (List E)
  | [], [] => some []
  | k :: l, s :: m => match (match k, s with
      | .b, .bool e => some e
      | .i q, .int q' e => if q = q' then some e else none
      | .f q, .flt q' e => if q = q' then some e else none
      | .s, .str e => some e
      | _, _ => none), wordsOf l m with
    | some e, some es => some (e :: es)
    | _, _ => none
  | _, _ => none

theorem wordsOf_ok : ∀ {ks : List Sk} {cs : List SV} {es : List E}, wordsOf ks cs = some es → es.length = ks.length ∧ cs.length = ks.length ∧ ∀ (j : Nat) (k : Sk) (s : SV) (e : E), ks[j]? = some k → cs[j]? = some s → es[j]? = some e → s = skSV k e := by
  intro ks
  induction ks with
  | nil =>
    intro cs es h
    cases cs with
    | nil => simp [wordsOf] at h; subst h; simp
    | cons a b => simp [wordsOf] at h
  | cons k ks ih =>
    intro cs es h
    cases cs with
    | nil => simp [wordsOf] at h
    | cons s cs =>
      unfold wordsOf at h
      split at h
      · rename_i e es' h1 h2
        cases h
        obtain ⟨k1, k2, k3⟩ := ih h2
        refine ⟨by simp [k1], by simp [k2], fun j k' s' e' g1 g2 g3 => ?_⟩
        cases j with
        | zero =>
          simp at g1 g2 g3
          subst g1 g2 g3
          split at h1 <;> first | (cases h1; rfl) | (split at h1 <;> first | (rename_i hq; subst hq; cases h1; rfl) | cases h1) | cases h1
        | succ j => exact k3 j k' s' e' (by simpa using g1) (by simpa using g2) (by simpa using g3)
      · cases h

/-- An element out of its fields' words. -/
def elemE (es : List E) : E := es.foldl (fun a e => .o2 .lpush a e) (.o2 .lrep (.i 0) (.b false))

theorem foldl_push_ev (es : List E) : ∀ a : E, ((es.foldl (fun a e => .o2 .lpush a e) a).ev U r).toL = (a.ev U r).toL ++ es.map fun e => e.ev U r := by
  induction es with
  | nil => intro a; simp
  | cons e es ih => intro a; simp only [List.foldl_cons, ih, E.ev, O2.ev, D.toL_l, List.map_cons, List.append_assoc, List.singleton_append]

theorem elemE_at (es : List E) {f : Nat} {e : E} (h : es[f]? = some e) : ((elemE es).ev U r).at_ f = e.ev U r := by
  unfold elemE D.at_
  rw [foldl_push_ev]
  have : (E.ev U r (.o2 .lrep (.i 0) (.b false))).toL = [] := rfl
  rw [this, List.nil_append, List.getD_eq_getElem?_getD, List.getElem?_map, h]; rfl

/-- An element put in. -/
def updE (a i x : E) : E :=
  match a with
  | .o3 .upd b j y => if i.same j then .o3 .upd b i x else .o3 .upd (.o3 .upd b j y) i x
  | a => match E.listE a, i with
    | some l, .i (.ofNat n) => if n < l.length then elemE (l.set n x) else .o3 .upd a i x
    | _, _ => .o3 .upd a i x

theorem elemE_ev (es : List E) : (elemE es).ev U r = .l (es.map fun e => e.ev U r) := by
  have h := foldl_push_ev (U := U) (r := r) es (.o2 .lrep (.i 0) (.b false))
  have h0 : (E.ev U r (.o2 .lrep (.i 0) (.b false))).toL = [] := rfl
  rw [h0, List.nil_append] at h
  unfold elemE
  have hl : ∀ (es : List E) (a : E), (∃ xs, a.ev U r = .l xs) → ∃ xs, (es.foldl (fun a e => E.o2 .lpush a e) a).ev U r = .l xs := by
    intro es
    induction es with
    | nil => intro a h; exact h
    | cons e es ih => intro a _; exact ih _ ⟨_, rfl⟩
  obtain ⟨xs, hx⟩ := hl es (.o2 .lrep (.i 0) (.b false)) ⟨[], rfl⟩
  rw [hx] at h ⊢
  rw [← h]; rfl

theorem updE_ev (a i x : E) : (updE a i x).ev U r = .l ((a.ev U r).toL.set (i.ev U r).toI.toNat (x.ev U r)) := by
  unfold updE
  split
  · rename_i b j y
    split
    · rename_i hs
      rw [E.same_eq hs]
      simp only [E.ev, O3.ev, D.toL_l, List.set_set]
    · rfl
  · split
    · rename_i l n hl
      split
      · rename_i hn
        rw [elemE_ev, E.listE_ev U r hl]
        simp only [D.toL_l, List.map_set]
        rfl
      · rfl
    · rfl

/-- All words of an element, some of them new. -/
def mixE (pc : List (E × Bool)) (a i : E) (f : Nat) (es : List E) (sz : Nat) : List E :=
  (List.range sz).map fun j => if j < f then selF pc i j a else (es[j - f]?).getD (selF pc i j a)

def storeI (P : Program) (c : Cx) (t : TypeId) (id sz : Nat) (i : E) (f : Nat) (y : SV) : Tree (SV × Cx) :=
  match rowAt c id sz i, y.cells?, szT P t with
  | some (true, ks, a), some cs, some n =>
    if cs.length = n ∧ f + n ≤ sz then
      match wordsOf ((ks.drop f).take n) cs with
      | some es => .ret (.any, { c with h := c.h.set id (some ⟨true, [], some (ks, updE a i (elemE (mixE c.pc a i f es sz)))⟩) })
      | none => .bad
    else .bad
  | _, _, _ => .bad

theorem storeI_ok {t : TypeId} {id sz f : Nat} {i : E} {y : SV} {vx vy : Value} (hh : HeapDen U r g L c.h w) (hp : PcOk U r c.pc) (hx : (SV.ptrI id sz i f).den U r g L vx) (hy : y.den U r g L vy)
    (h : (storeI P c t id sz i f y).sat U (Post U L r g c w K) r) : VOk P (Instr.storeAt t vx vy) w fun _ w' => K undef w' := by
  simp only [SV.den] at hx
  obtain ⟨hl, h0, rfl⟩ := hx
  unfold storeI at h
  split at h
  · rename_i ks a cs n hra hcs hsz
    obtain ⟨hks, b, hb, hwr, hr, hlt, xs, tt, fz, e1, e2, e3, hrow⟩ := rowAt_ok hh hp hl h0 hra
    rw [e3 rfl] at e1
    split at h
    · rename_i hc
      obtain ⟨hn, hle⟩ := hc
      split at h
      · rename_i es hes
        obtain ⟨hd, h1⟩ := cells_ok (U := U) (L := L) (r := r) (g := g) hcs hy
        have hlen := SV.denL_length U r g L hd
        obtain ⟨q1, q2, q3⟩ := wordsOf_ok hes
        have hvs : vy.cells.size = n := by rw [← hn, hlen]; simp
        have hcell : ∀ {f' : Nat} {k : Sk}, ks[f']? = some k → ∃ v, xs[g.o id + ((i.ev U r).toI.toNat * sz + f')]? = some v ∧ k.den (((a.ev U r).at_ (i.ev U r).toI.toNat).at_ f') v := by
          intro f' k hk
          obtain ⟨v, hv, hd⟩ := hrow.cell hlt hk
          rw [hks] at hv
          rw [at_toL] at hd
          exact ⟨v, hv, hd⟩
        have shape : ∀ {i' : Nat} {d : D}, ((a.ev U r).toL.set (i.ev U r).toI.toNat ((elemE (mixE c.pc a i f es sz)).ev U r))[i']? = some d → ∃ fs, d = .l fs ∧ fs.length = ks.length := by
          intro i' d hd'
          by_cases hii : i' = (i.ev U r).toI.toNat
          · subst hii
            rw [List.getElem?_set_self hlt] at hd'
            cases hd'
            exact ⟨_, elemE_ev _, by simp [mixE, hks]⟩
          · rw [List.getElem?_set_ne (Ne.symm hii)] at hd'
            exact (hrow i' d hd').1
        have hroom : n = 0 ∨ g.o id + ((i.ev U r).toI.toNat * sz + f) + n ≤ xs.size := by
          rcases Nat.eq_zero_or_pos n with hz | hz
          · exact .inl hz
          · right
            obtain ⟨vl, hvl, _⟩ := hcell (f' := f + (n - 1)) (k := ks[f + (n - 1)]'(by omega)) (List.getElem?_eq_getElem (by omega))
            have := (Array.getElem?_eq_some_iff.1 hvl).1; omega
        rcases hroom with hz | hroom
        · subst hz
          have hsz0 : sz ≤ f ∨ f < sz := by omega
          -- nothing is written
          have hv0 : vy.cells.toList = [] := by
            apply List.eq_nil_of_length_eq_zero; simpa using hvs
          have hrun : (Instr.storeAt t (.pointer (some ⟨g.a id, g.o id + ((i.ev U r).toI.toNat * sz + f), none⟩)) vy).run P w = .ok () w := by
            simp only [Instr.storeAt, Instr.sureAddr, Sem.run_bind, Sem.run_pure, Result.andThen_ok]
            unfold storeVar
            simp only [Sem.run_bind, run_sizeOf_of hsz, Result.andThen_ok, hvs, ne_eq, not_true_eq_false, if_false, hv0, storeCells]
            rfl
          have hw : Wrote (g.a id) xs tt w w := ⟨e1, fun _ _ => rfl, rfl, rfl, rfl, rfl⟩
          refine ⟨(), w, hrun, ?_⟩
          refine h g undef w (ext_store hh hp hl hb (by rw [hwr]) hw e2 (by simp) (fun j s hs => by simp at hs) (some (ks, _)) ?_) trivial
          intro ks' e' he'
          cases he'
          intro i' d hd'
          rw [updE_ev, D.toL_l] at hd'
          refine ⟨shape hd', ?_⟩
          intro f' k hk
          by_cases hii : i' = (i.ev U r).toI.toNat
          · subst hii
            rw [List.getElem?_set_self hlt] at hd'
            cases hd'
            obtain ⟨v, hv, hdv⟩ := hcell hk
            have hf' : f' < sz := by have := (List.getElem?_eq_some_iff.1 hk).1; omega
            refine ⟨v, by rw [hks]; exact hv, ?_⟩
            have hm : (mixE c.pc a i f es sz)[f']? = some (selF c.pc i f' a) := by
              unfold mixE
              rw [List.getElem?_map, List.getElem?_range hf']
              simp only [Option.map_some, Option.some.injEq]
              have : es = [] := by apply List.eq_nil_of_length_eq_zero; rw [q1]; simp
              subst this
              simp
            rw [elemE_at _ hm, selF_ev hp]
            exact hdv
          · rw [List.getElem?_set_ne (Ne.symm hii)] at hd'
            exact (hrow i' d hd').2 f' k hk
        · obtain ⟨w', hrr, hw⟩ := run_storeVar_of (P := P) (o := g.o id + ((i.ev U r).toI.toNat * sz + f)) e1 (by rw [hvs]; exact hsz) (by rw [hvs]; omega) h1
          refine ⟨(), w', ?_, ?_⟩
          · simp only [Instr.storeAt, Instr.sureAddr, Sem.run_bind, Sem.run_pure, Result.andThen_ok]; exact hrr
          · refine h g undef w' (ext_store hh hp hl hb (by rw [hwr]) hw (by rw [putIn_size]; exact e2) (by simp) (fun j s hs => by simp at hs) (some (ks, _)) ?_) trivial
            intro ks' e' he'
            cases he'
            intro i' d hd'
            rw [updE_ev, D.toL_l] at hd'
            refine ⟨shape hd', ?_⟩
            intro f' k hk
            have hf' : f' < sz := by have := (List.getElem?_eq_some_iff.1 hk).1; omega
            have hlc : vy.cells.toList.length = n := by simpa using hvs
            rw [putIn_get _ _ _ _ (by rw [hlc]; exact hroom), hlc, hks]
            by_cases hii : i' = (i.ev U r).toI.toNat
            · subst hii
              rw [List.getElem?_set_self hlt] at hd'
              cases hd'
              by_cases hin : f ≤ f' ∧ f' < f + n
              · rw [if_pos (by omega)]
                have hk' : ((ks.drop f).take n)[f' - f]? = some k := by
                  rw [List.getElem?_take, if_pos (by omega), List.getElem?_drop]
                  rw [show f + (f' - f) = f' by omega]; exact hk
                have hes' : f' - f < es.length := by rw [q1]; exact (List.getElem?_eq_some_iff.1 hk').1
                have hcs' : f' - f < cs.length := by rw [q2]; exact (List.getElem?_eq_some_iff.1 hk').1
                have e0 := q3 (f' - f) k cs[f' - f] es[f' - f] hk' (List.getElem?_eq_getElem hcs') (List.getElem?_eq_getElem hes')
                obtain ⟨v, hv, hdv⟩ := SV.denL_get U r g L hd (List.getElem?_eq_getElem hcs')
                refine ⟨v, ?_, ?_⟩
                · rw [← hv]; congr 1; omega
                · have hm : (mixE c.pc a i f es sz)[f']? = some es[f' - f] := by
                    unfold mixE
                    rw [List.getElem?_map, List.getElem?_range hf']
                    simp only [Option.map_some, Option.some.injEq]
                    rw [if_neg (by omega), List.getElem?_eq_getElem hes']; rfl
                  rw [elemE_at _ hm]
                  rw [e0] at hdv
                  exact skSV_iff.1 hdv
              · rw [if_neg (by omega)]
                obtain ⟨v, hv, hdv⟩ := hcell hk
                refine ⟨v, hv, ?_⟩
                have hm : (mixE c.pc a i f es sz)[f']? = some (selF c.pc i f' a) := by
                  unfold mixE
                  rw [List.getElem?_map, List.getElem?_range hf']
                  simp only [Option.map_some, Option.some.injEq]
                  split
                  · rfl
                  · have hlk : ((ks.drop f).take n).length ≤ n := by simp; omega
                    rw [List.getElem?_eq_none (by omega)]; rfl
                rw [elemE_at _ hm, selF_ev hp]
                exact hdv
            · rw [List.getElem?_set_ne (Ne.symm hii)] at hd'
              obtain ⟨v, hv, hdv⟩ := (hrow i' d hd').2 f' k hk
              rw [hks] at hv
              refine ⟨v, ?_, hdv⟩
              rw [if_neg, hv]
              have h3 : i' * sz + sz = (i' + 1) * sz := by rw [Nat.add_mul]; omega
              have h4 : (i.ev U r).toI.toNat * sz + sz = ((i.ev U r).toI.toNat + 1) * sz := by rw [Nat.add_mul]; omega
              rcases Nat.lt_or_gt_of_ne hii with hlt' | hgt'
              · have := Nat.mul_le_mul_right sz (show i' + 1 ≤ (i.ev U r).toI.toNat by omega)
                omega
              · have := Nat.mul_le_mul_right sz (show (i.ev U r).toI.toNat + 1 ≤ i' by omega)
                omega
      · exact h.elim
    · exact h.elim
  · exact h.elim

def storeY (P : Program) (c : Cx) (t : TypeId) (x y : SV) : Tree (SV × Cx) :=
  match x with
  | .ptrI id sz i f => storeI P c t id sz i f y
  | x => storeX P c t x y

theorem storeY_ok {t : TypeId} {x y : SV} {vx vy : Value} (hh : HeapDen U r g L c.h w) (hp : PcOk U r c.pc) (hx : x.den U r g L vx) (hy : y.den U r g L vy) (h : (storeY P c t x y).sat U (Post U L r g c w K) r) :
    VOk P (Instr.storeAt t vx vy) w fun _ w' => K undef w' := by
  unfold storeY at h
  split at h
  · exact storeI_ok hh hp hx hy h
  · exact storeX_ok hh hp hx hy h

/-! ### Addresses -/

def fieldAddrY (P : Program) (c : Cx) (t : TypeId) (x : SV) (i : Nat) : Tree (SV × Cx) :=
  match x, P.underlying t with
  | .ptrI id sz e off, some (.struct fields) =>
    match fields[i]? with
    | some f => match szT P f.type with
      | some (_ + 1) => .ret (.ptrI id sz e (off + f.offset), c)
      | _ => .bad
    | none => .bad
  | x, _ => fieldAddrX P c t x i

theorem fieldAddrY_ok {t : TypeId} {x : SV} {vx : Value} {i : Nat} (hh : HeapDen U r g L c.h w) (hp : PcOk U r c.pc) (hx : x.den U r g L vx) (h : (fieldAddrY P c t x i).sat U (Post U L r g c w K) r) :
    VOk P (Instr.fieldAt t vx i) w K := by
  unfold fieldAddrY at h
  split at h
  · rename_i id sz e off fields hu
    simp only [SV.den] at hx
    obtain ⟨hl, h0, rfl⟩ := hx
    split at h
    · rename_i f hf
      split at h
      · rename_i n hs
        refine ⟨.pointer (some ⟨g.a id, g.o id + ((e.ev U r).toI.toNat * sz + off) + f.offset, none⟩), w, ?_, Post.same h hh hp (Same.refl w) ⟨hl, h0, by rw [Nat.add_assoc, Nat.add_assoc]⟩⟩
        simp only [Instr.fieldAt, Sem.run_bind, run_und hu, Result.andThen_ok, hf, Instr.sureAddr, Sem.run_pure, fieldPlace, run_sizeOf_of hs]
        rw [if_neg (by omega), add_none]; rfl
      · exact h.elim
    · exact h.elim
  · exact fieldAddrX_ok hh hp hx h

def indexAddrY (P : Program) (c : Cx) (t : TypeId) (x i : SV) : Tree (SV × Cx) :=
  match P.underlying t, x, i with
  | some (.slice e), .slo id sz len, .int _ n => match szT P e with
    | some s => if s = sz then br c (mk2 .ile (.i 0) n) (fun c => br c (mk2 .ilt n len) (fun c => .ret (.ptrI id sz n 0, c)) (fun _ => .bad)) (fun _ => .bad) else .bad
    | none => .bad
  | _, x, i => indexAddrX P c t x i

theorem indexAddrY_ok {t : TypeId} {x i : SV} {vx vi : Value} (hh : HeapDen U r g L c.h w) (hp : PcOk U r c.pc) (hx : x.den U r g L vx) (hi : i.den U r g L vi) (h : (indexAddrY P c t x i).sat U (Post U L r g c w K) r) :
    VOk P (Instr.indexAt t vx vi) w K := by
  unfold indexAddrY at h
  split at h
  · rename_i e id sz len k n hu
    simp only [SV.den] at hx hi
    subst hi
    obtain ⟨h0, base, cp, rfl, h3, h4⟩ := hx
    split at h
    · rename_i s hs
      split at h
      · rename_i hss
        subst hss
        obtain ⟨pc, hp', h | h⟩ := sat_br hp h
        · obtain ⟨pc', hp'', h' | h'⟩ := sat_br (c := { c with pc := pc }) hp' h.2
          · have h1 : 0 ≤ (n.ev U r).toI := by
              have := h.1; rw [mk2_ev] at this; exact of_decide_eq_true this
            have h2 : (n.ev U r).toI < (len.ev U r).toI := by
              have := h'.1; rw [mk2_ev] at this; exact of_decide_eq_true this
            rcases h4 with rfl | ⟨hl, rfl, h5⟩
            · omega
            · have hlt : (n.ev U r).toI < (((len.ev U r).toI.toNat : Nat) : Int) := by omega
              refine ⟨_, w, ?_, Post.same h'.2 hh hp'' (Same.refl w) ⟨hl, h1, rfl⟩⟩
              simp only [Instr.indexAt, asIntOf, Sem.run_bind, Sem.run_pure, Result.andThen_ok, run_und hu]
              rw [if_pos ⟨h1, hlt⟩]
              simp only [Sem.run_bind, run_sizeOf_of hs, Result.andThen_ok, add_none]
              rfl
          · exact h'.2.elim
        · exact h.2.elim
      · exact h.elim
    · exact h.elim
  · exact indexAddrX_ok hh hp hx hi h

def nilCheckY (c : Cx) (x : SV) : Tree (SV × Cx) :=
  match x with
  | .ptrI id sz i f => .ret (.ptrI id sz i f, c)
  | x => nilCheckX c x

end
end Go.Sx
