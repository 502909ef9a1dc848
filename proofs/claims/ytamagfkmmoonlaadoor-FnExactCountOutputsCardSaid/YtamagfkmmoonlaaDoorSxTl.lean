/-
  Sx, part Tl: the lines of a text: its pieces without the last, and whether the last is empty.
-/
import Derived.Test.YtamagfkmmoonlaaDoorSxTs
import Derived.Shelf.Strings.Prefix
namespace Go.Sx.Tl
open E (mk1 mk2 mkIte mk1_ev mk2_ev mkIte_ev)
open Go.RowKit (Below)
open Ts (sc sc_hit sc_miss sc_ne cutL cutL_len cutVal cutE cutE_ev txt)

/-! ### The last piece -/

def lastP (c : UInt8) : List UInt8 → List UInt8 → List UInt8
  | acc, [] => acc
  | acc, x :: r => if x = c then lastP c [] r else lastP c (acc ++ [x]) r
theorem lastP_hit (c : UInt8) (acc l : List UInt8) : lastP c acc (c :: l) = lastP c [] l := by
  show (if c = c then _ else _) = _
  rw [if_pos rfl]
theorem lastP_miss {c x : UInt8} (acc l : List UInt8) (h : x ≠ c) : lastP c acc (x :: l) = lastP c (acc ++ [x]) l := by
  show (if x = c then _ else _) = _
  rw [if_neg h]
theorem sc_last (c : UInt8) : ∀ (l acc : List UInt8), (sc c acc l)[(sc c acc l).length - 1]? = some (lastP c acc l) := by
  intro l
  induction l with
  | nil => intro acc; rfl
  | cons x r ih =>
    intro acc
    by_cases hx : x = c
    · subst hx
      rw [sc_hit, lastP_hit]
      have h1 := ih []
      have h2 : 1 ≤ (sc x [] r).length := (Ts.sc_len x r []).1
      rw [List.length_cons, Nat.add_sub_cancel, List.getElem?_cons, if_neg (by omega)]
      exact h1
    · rw [sc_miss _ _ hx, lastP_miss _ _ hx]
      exact ih _
theorem lastP_nil (c : UInt8) : ∀ (l acc : List UInt8), l ≠ [] → (lastP c acc l = [] ↔ l.getLast? = some c) := by
  intro l
  induction l with
  | nil => intro acc h; exact absurd rfl h
  | cons x r ih =>
    intro acc _
    by_cases hx : x = c
    · subst hx
      rw [lastP_hit]
      cases r with
      | nil => simp [lastP]
      | cons y r => rw [ih [] (by simp)]; simp [List.getLast?_cons_cons]
    · rw [lastP_miss _ _ hx]
      cases r with
      | nil => simp [lastP, hx]
      | cons y r => rw [ih _ (by simp)]; simp [List.getLast?_cons_cons]

/-- The last of some pieces, as a text. -/
def lastE (W : E) : E := .o2 .sel (.o2 .sel W (.o2 .iadd (.o1 .llen W) (.i (-1)))) (.i 0)
section
variable {U : Nat → D → D}
theorem lastE_ev {W e : E} {c : UInt8} {r : Nat → D} (hW : W.ev U r = .l (cutL c (e.ev U r).toS)) : (lastE W).ev U r = .s (txt (lastP c [] (e.ev U r).toS.data.toList)) := by
  have hlen := (cutL_len c (e.ev U r).toS).1
  have h1 := sc_last c (e.ev U r).toS.data.toList []
  show (((W.ev U r).toL.getD ((((W.ev U r).toL.length : Nat) : Int) + (-1)).toNat (.b false)).at_ 0) = _
  rw [hW, D.toL_l]
  have h2 : ((((cutL c (e.ev U r).toS).length : Nat) : Int) + (-1)).toNat = (sc c [] (e.ev U r).toS.data.toList).length - 1 := by
    unfold cutL
    rw [List.length_map]
    unfold cutL at hlen
    rw [List.length_map] at hlen
    omega
  rw [h2, List.getD_eq_getElem?_getD]
  unfold cutL
  rw [List.getElem?_map, h1]
  rfl
theorem lastE_empty {W e : E} {c : UInt8} {r : Nat → D} (hW : W.ev U r = .l (cutL c (e.ev U r).toS)) (he : (e.ev U r).toS = .empty) : ((lastE W).ev U r).toS = .empty := by
  rw [lastE_ev hW, he]
  rfl
end

/-! ### A suffix of one byte -/

def SufSays (P : Program) (f : FuncId) : Prop := ∀ (s p : ByteArray) (w : World), s.size ≤ 9223372036854775807 → Calls P f #[.string s, .string p] w fun e w' => e = .returned (.bool (Lib.hasSuffix s.data.toList p.data.toList)) ∧ w' = w
def sufRun (cn : Nat) (args : List SV) (c : Cx) : Tree (SV × Cx) :=
  match args with
  | [.str e, .str (.s [b])] => if sure (.o2 .ile (.o1 .slen e) (.i 16777216)) c.pc then
      br c (mk2 .seq e (.s [])) (fun c => .ret (.bool (.b false), c)) (fun c => .ret (.bool (mk2 .seq (lastE (cutE cn e (b.toNat : Int))) (.s [])), c)) else .bad
  | _ => .bad
theorem seq_nil {U : Nat → D → D} {r : Nat → D} (x : E) : ((mk2 .seq x (.s [])).ev U r).toB = decide ((x.ev U r).toS.data.toList = []) := by
  rw [mk2_ev]
  show ((x.ev U r).toS.toList == ((E.s []).ev U r).toS.toList) = _
  rw [Lib.toList_data, Lib.toList_data]
  show ((x.ev U r).toS.data.toList == []) = _
  rw [Bool.eq_iff_iff, decide_eq_true_iff]
  exact beq_iff_eq
theorem suffix_one (l : List UInt8) (b : UInt8) : Lib.hasSuffix l [b] = decide (l.getLast? = some b) := by
  unfold Lib.hasSuffix
  rcases List.eq_nil_or_concat l with rfl | ⟨m, x, rfl⟩
  · rfl
  · rw [List.concat_eq_append, List.getLast?_concat]
    rw [show ([b] : List UInt8).isSuffixOf (m ++ [x]) = decide (b = x) from ?_]
    · rw [decide_eq_decide]
      constructor
      · intro h; rw [h]
      · intro h; exact (Option.some.inj h).symm
    · unfold List.isSuffixOf
      rw [List.reverse_append]
      show ((b == x) && true) = decide (b = x)
      rw [Bool.and_true, Bool.eq_iff_iff, decide_eq_true_iff]
      exact beq_iff_eq
section
variable {U : Nat → D → D} {P : Program}
theorem suf_entry {f : FuncId} {fn : Func} {body : Code} {cn : Nat} (hn : NamesOk P) (hf : P.funcs[f]? = some fn) (hb : fn.body = some body) (hS : SufSays P f) (hU : ∀ d, U cn d = cutVal d) : EntryOk U P f (sufRun cn) := by
  intro args c L r g w vs K hh hp hd h
  unfold sufRun at h
  split at h
  case h_2 => exact h.elim
  rename_i e b
  split at h
  case isFalse => exact h.elim
  rename_i hs
  have hs : (((e.ev U r).toS.size : Nat) : Int) ≤ 16777216 := of_decide_eq_true (sure_ok hp hs)
  obtain ⟨v1, v2, hvs⟩ : ∃ v1 v2, vs = #[v1, v2] := by
    have hl := SV.denL_length U r g L hd
    simp only [List.length_cons, List.length_nil, Array.length_toList] at hl
    match vs, hl with
    | ⟨[a, b]⟩, _ => exact ⟨a, b, rfl⟩
  subst hvs
  simp only [SV.denL, SV.den, and_true] at hd
  obtain ⟨rfl, rfl⟩ := hd
  have hW := cutE_ev (cn := cn) hU r e b
  have hseq : ∀ x : E, ((mk2 .seq x (.s [])).ev U r).toB = decide ((x.ev U r).toS.data.toList = []) := fun x => seq_nil x
  refine callGoal_of hn hf hb ((hS (e.ev U r).toS ⟨#[b]⟩ w (by omega)).mono fun en w' ⟨he, hw⟩ => ⟨_, he, ?_⟩)
  subst hw
  rw [show (⟨#[b]⟩ : ByteArray).data.toList = [b] from rfl, suffix_one]
  obtain ⟨pc', hp', h | h⟩ := br_sat hp h
  · have he : (e.ev U r).toS.data.toList = [] := of_decide_eq_true (by rw [← hseq]; exact h.1)
    refine h.2 g _ _ (ext_frame (c' := { c with pc := pc' }) hh rfl (Nat.le_refl _) hp' ⟨rfl, rfl, rfl, Nat.le_refl _, fun _ _ _ => rfl⟩) ?_
    simp only [SV.den]
    rw [he]
    rfl
  · have hne : (e.ev U r).toS.data.toList ≠ [] := fun he => by
      have := h.1
      rw [hseq, decide_eq_true he] at this
      cases this
    refine h.2 g _ _ (ext_frame (c' := { c with pc := pc' }) hh rfl (Nat.le_refl _) hp' ⟨rfl, rfl, rfl, Nat.le_refl _, fun _ _ _ => rfl⟩) ?_
    simp only [SV.den]
    rw [hseq, lastE_ev hW]
    congr 1
    rw [decide_eq_decide, ← lastP_nil b _ [] hne]
    exact Iff.rfl
end

/-! ### The pieces without the last -/

def lnVal (d : D) : D := .l (cutL (UInt8.ofNat (d.at_ 1).toI.toNat) (d.at_ 0).toS).dropLast
theorem heap_row {U : Nat → D → D} {r : Nat → D} {g : Gh} {L : Nat → Prop} {H : SH} {w : World} (hh : HeapDen U r g L H w) {id : Nat} {wr : Bool} {cs : List SV} {ks : List Sk} {R R' : E} (hb : H[id]? = some (some ⟨wr, cs, some (ks, R)⟩))
    (hR : ∀ (i : Nat) (d : D), (R'.ev U r).toL[i]? = some d → (R.ev U r).toL[i]? = some d) : HeapDen U r g L (H.set id (some ⟨wr, cs, some (ks, R')⟩)) w := by
  have hlt : id < H.length := (List.getElem?_eq_some_iff.1 hb).1
  have get : ∀ {k : Nat} {b : SB}, (H.set id (some ⟨wr, cs, some (ks, R')⟩))[k]? = some (some b) → ∃ b', H[k]? = some (some b') ∧ b'.wr = b.wr ∧ b'.cs = b.cs ∧ (k = id ∧ b = ⟨wr, cs, some (ks, R')⟩ ∨ k ≠ id ∧ b = b') := by
    intro k b hk
    by_cases he : k = id
    · subst he
      rw [List.getElem?_set_self hlt] at hk
      cases hk
      exact ⟨_, hb, rfl, rfl, .inl ⟨rfl, rfl⟩⟩
    · rw [List.getElem?_set_ne (Ne.symm he)] at hk
      exact ⟨b, hk, rfl, rfl, .inr ⟨he, rfl⟩⟩
  refine ⟨fun k hk => by rw [List.length_set]; exact hh.bnd k hk, hh.lt, fun k b hl hk => ?_, fun i j b b' hi hj h1 hw h2 he => ?_, fun k b ks' e hl hk hr => ?_, fun k b hk hw => ?_⟩
  · obtain ⟨b', h1, h2, h3, _⟩ := get hk
    obtain ⟨xs, t, fz, q1, q2, q3, q4, q5⟩ := hh.blk k b' hl h1
    exact ⟨xs, t, fz, q1, q2, by rw [← h2]; exact q3, by rw [← h3]; exact q4, by rw [← h3]; exact q5⟩
  · obtain ⟨b1, k1, k2, _⟩ := get h1
    obtain ⟨b2, k3, _⟩ := get h2
    exact hh.inj i j b1 b2 hi hj k1 (by rw [k2]; exact hw) k3 he
  · obtain ⟨b', h1, h2, h3, h4⟩ := get hk
    rcases h4 with ⟨rfl, rfl⟩ | ⟨_, rfl⟩
    · cases hr
      obtain ⟨xs, t, fz, q1, q2⟩ := hh.rows k _ ks R hl hb rfl
      exact ⟨xs, t, fz, q1, fun i d hd => q2 i d (hR i d hd)⟩
    · exact hh.rows k b ks' e hl h1 hr
  · obtain ⟨b', h1, h2, _⟩ := get hk
    exact hh.live k b' h1 (by rw [h2]; exact hw)
theorem ext_row {U : Nat → D → D} {L : Nat → Prop} {r r' : Nat → D} {g g' : Gh} {c c' : Cx} {w w' : World} (e : Ext U L r g c w r' g' c' w') {id : Nat} {wr : Bool} {cs : List SV} {ks : List Sk} {R R' : E} {pc : List (E × Bool)} (hb : c'.h[id]? = some (some ⟨wr, cs, some (ks, R)⟩))
    (hR : ∀ (i : Nat) (d : D), (R'.ev U r').toL[i]? = some d → (R.ev U r').toL[i]? = some d) (hp : PcOk U r' pc) : Ext U L r g c w r' g' ⟨c'.h.set id (some ⟨wr, cs, some (ks, R')⟩), c'.nv, pc⟩ w' := by
  have hlt : id < c'.h.length := (List.getElem?_eq_some_iff.1 hb).1
  have hlen : (c'.h.set id (some (⟨wr, cs, some (ks, R')⟩ : SB))).length = c'.h.length := List.length_set
  have hLx : Lx L c.h (c'.h.set id (some ⟨wr, cs, some (ks, R')⟩)) = Lx L c.h c'.h := by
    unfold Lx; rw [hlen]
  refine ⟨e.nv, e.agr, by show c.h.length ≤ _; rw [hlen]; exact e.len, fun k hk => e.ga k (by rw [← hlen]; exact hk), fun k hk => e.go k (by rw [← hlen]; exact hk), ?_, hp, e.frm, fun k b hk hb' hw => ?_, fun k h1 h2 => e.fresh k h1 (by rw [← hlen]; exact h2)⟩
  · show HeapDen U r' g' (Lx L c.h (c'.h.set id (some ⟨wr, cs, some (ks, R')⟩))) _ w'
    rw [hLx]
    exact heap_row e.heap hb hR
  · have hk' : Lx L c.h c'.h k := by rw [← hLx]; exact hk
    have hb' : (c'.h.set id (some (⟨wr, cs, some (ks, R')⟩ : SB)))[k]? = some (some b) := hb'
    by_cases he : k = id
    · subst he
      rw [List.getElem?_set_self hlt] at hb'
      cases hb'
      exact e.wrs k _ hk' hb hw
    · rw [List.getElem?_set_ne (Ne.symm he)] at hb'
      exact e.wrs k b hk' hb' hw

/-- At a function's end: a slice of all pieces but the last is a slice of the lines; the last piece of nothing is empty. -/
def lnX (cn ln : Nat) (x : SV × Cx) : Tree (SV × Cx) :=
  match x with
  | (.tup [.slo id 1 h, y], c) => (match c.h[id]? with
    | some (some ⟨wr, [], some ([.s], .app n (.o2 .lpush (.o2 .lpush (.o2 .lrep (.i 0) (.b false)) e) (.i z)))⟩) =>
      if Nat.beq n cn && (decide (0 ≤ z ∧ z ≤ 255) && sure (.o2 .ieq h (.o2 .iadd (.o1 .llen (.app n (elemE [e, .i z]))) (.i (-1)))) c.pc) then
        (let c' : Cx := ⟨c.h.set id (some ⟨wr, [], some ([.s], .app ln (elemE [e, .i z]))⟩), c.nv, (.o2 .ieq (.o1 .llen (.app ln (elemE [e, .i z]))) (.o2 .iadd (.o1 .llen (.app n (elemE [e, .i z]))) (.i (-1))), true) :: c.pc⟩
        match y with
        | .str t => if t.same (lastE (.app n (elemE [e, .i z]))) then br c' (mk2 .seq e (.s [])) (fun c => .ret (.tup [.slo id 1 (mk1 .llen (.app ln (elemE [e, .i z]))), .str (.s [])], c)) (fun c => .ret (.tup [.slo id 1 (mk1 .llen (.app ln (elemE [e, .i z]))), y], c)) else .ret x
        | .bool (.b b) => .ret (.tup [.slo id 1 (mk1 .llen (.app ln (elemE [e, .i z]))), .bool (.b b)], c')
        | _ => .ret x)
      else .ret x
    | _ => .ret x)
  | x => .ret x
def lnRun (cn ln : Nat) (run : List SV → Cx → Tree (SV × Cx)) (args : List SV) (c : Cx) : Tree (SV × Cx) := (run args c).bind (lnX cn ln)
section
variable {U : Nat → D → D} {P : Program}
theorem lnRun_ok {f : FuncId} {run : List SV → Cx → Tree (SV × Cx)} {cn ln : Nat} (hr : EntryOk U P f run) (hU : ∀ d, U cn d = cutVal d) (hL : ∀ d, U ln d = lnVal d) : EntryOk U P f (lnRun cn ln run) := by
  intro args c L r g w vs K hh hp hd hsat
  unfold lnRun at hsat
  rw [Tree.sat_bind] at hsat
  refine hr args c L r g w vs K hh hp hd (Tree.sat_mono (fun r' x hx => ?_) hsat)
  intro g' v w' ex d
  unfold lnX at hx
  split at hx
  case h_2 => exact hx g' v w' ex d
  rename_i id h y c'
  split at hx
  case h_2 => exact hx g' v w' ex d
  rename_i wr n e z hb
  split at hx
  case isFalse => exact hx g' v w' ex d
  rename_i hc
  simp only [Bool.and_eq_true, decide_eq_true_eq] at hc
  obtain ⟨hn, hz, hs⟩ := hc
  have hn := Nat.eq_of_beq_eq_true hn
  subst hn
  have hcn : (((UInt8.ofNat z.toNat).toNat : Nat) : Int) = z := by rw [UInt8.toNat_ofNat']; omega
  have hW : (E.app n (elemE [e, .i z])).ev U r' = .l (cutL (UInt8.ofNat z.toNat) (e.ev U r').toS) := by
    have := cutE_ev (cn := n) hU r' e (UInt8.ofNat z.toNat)
    unfold cutE at this
    rwa [hcn] at this
  have hN : (E.app ln (elemE [e, .i z])).ev U r' = .l (cutL (UInt8.ofNat z.toNat) (e.ev U r').toS).dropLast := by
    show U ln ((elemE [e, .i z]).ev U r') = _
    rw [elemE_ev, hL]
    rfl
  have hlen := (cutL_len (UInt8.ofNat z.toNat) (e.ev U r').toS).1
  have hh' : (h.ev U r').toI = (((cutL (UInt8.ofNat z.toNat) (e.ev U r').toS).length : Nat) : Int) + (-1) := by
    have := beq_iff_eq.1 (show ((h.ev U r').toI == (((((E.app n (elemE [e, .i z])).ev U r').toL.length : Nat) : Int) + (-1))) = true from sure_ok ex.pc hs)
    rwa [hW] at this
  have hR : ∀ (i : Nat) (d : D), ((E.app ln (elemE [e, .i z])).ev U r').toL[i]? = some d → ((E.app n (elemE [e, .i z])).ev U r').toL[i]? = some d := by
    intro i d hd
    rw [hN, D.toL_l, List.getElem?_dropLast] at hd
    rw [hW, D.toL_l]
    split at hd
    · exact hd
    · cases hd
  have hll : ((mk1 .llen (.app ln (elemE [e, .i z]))).ev U r').toI = (h.ev U r').toI := by
    rw [mk1_ev, hh']
    show ((((E.app ln (elemE [e, .i z])).ev U r').toL.length : Nat) : Int) = _
    rw [hN, D.toL_l, List.length_dropLast]
    omega
  have hpc : PcOk U r' ((.o2 .ieq (.o1 .llen (.app ln (elemE [e, .i z]))) (.o2 .iadd (.o1 .llen (.app n (elemE [e, .i z]))) (.i (-1))), true) :: c'.pc) := by
    intro q hq
    rcases List.mem_cons.1 hq with rfl | hq
    · refine beq_iff_eq.2 ?_
      show ((((E.app ln (elemE [e, .i z])).ev U r').toL.length : Nat) : Int) = ((((E.app n (elemE [e, .i z])).ev U r').toL.length : Nat) : Int) + (-1)
      rw [hN, hW, D.toL_l, D.toL_l, List.length_dropLast]
      omega
    · exact ex.pc q hq
  have hLx : ∀ b : Option SB, Lx L c.h (c'.h.set id b) = Lx L c.h c'.h := fun b => by unfold Lx; rw [List.length_set]
  have E2 : ∀ {pc : List (E × Bool)}, PcOk U r' pc → Ext U L r g c w r' g' ⟨c'.h.set id (some ⟨wr, [], some ([.s], .app ln (elemE [e, .i z]))⟩), c'.nv, pc⟩ w' := fun {_} hq => ext_row (R := .app n (elemE [e, .i z])) ex hb hR hq
  obtain ⟨xs, rfl, hd2⟩ := (show ∃ xs : Array Value, v = .tuple xs ∧ SV.denL U r' g' (Lx L c.h c'.h) [.slo id 1 h, y] xs.toList from by simpa only [SV.den] using d)
  obtain ⟨v1, v2, hxs⟩ : ∃ v1 v2, xs.toList = [v1, v2] := by
    have hl := SV.denL_length U r' g' _ hd2
    match hx' : xs.toList, hl with
    | [a, b], _ => exact ⟨a, b, rfl⟩
  rw [hxs] at hd2
  simp only [SV.denL, and_true] at hd2
  have tup : ∀ {y' : SV} {b : Option SB}, y'.den U r' g' (Lx L c.h c'.h) v2 → (SV.tup [.slo id 1 (mk1 .llen (.app ln (elemE [e, .i z]))), y']).den U r' g' (Lx L c.h (c'.h.set id b)) (.tuple xs) := fun {y' b} hy => by
    simp only [SV.den]
    refine ⟨xs, rfl, ?_⟩
    rw [hxs, hLx]
    simp only [SV.denL, and_true]
    refine ⟨?_, hy⟩
    have := hd2.1
    simp only [SV.den] at this ⊢
    rw [hll]
    exact this
  split at hx
  · rename_i t
    split at hx
    case isFalse => exact hx g' _ w' ex d
    rename_i ht
    have ht := E.same_eq ht
    subst ht
    obtain ⟨pc', hp', hx | hx⟩ := br_sat (c := ⟨c'.h.set id (some ⟨wr, [], some ([.s], .app ln (elemE [e, .i z]))⟩), c'.nv, _⟩) hpc hx
    · refine hx.2 g' _ w' (E2 hp') (tup ?_)
      have he : (e.ev U r').toS.data.toList = [] := by
        have := hx.1
        rw [seq_nil] at this
        exact of_decide_eq_true this
      have h2 := hd2.2
      simp only [SV.den] at h2 ⊢
      rw [h2, lastE_ev hW, he]
      rfl
    · exact hx.2 g' _ w' (E2 hp') (tup hd2.2)
  · exact hx g' _ w' (E2 hpc) (tup hd2.2)
  · exact hx g' _ w' ex d
end
end Go.Sx.Tl
