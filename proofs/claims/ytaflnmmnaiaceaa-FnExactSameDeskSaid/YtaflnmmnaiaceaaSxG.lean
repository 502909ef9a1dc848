/-
  Sx, part G: addresses, parts, slices, conversions; then all operations that call nothing.
-/
import Derived.Test.YtaflnmmnaiaceaaSxE
import Derived.Test.YtaflnmmnaiaceaaSxR
namespace Go.Sx
open E (mk1 mk2 mkIte mk1_ev mk2_ev mkIte_ev)

section
variable {U : Nat → D → D} {L : Nat → Prop} {r : Nat → D} {g : Gh} {c : Cx} {w : World} {P : Program} {K : Value → World → Prop}

/-! ### Addresses and parts -/

def fieldAddrX (P : Program) (c : Cx) (t : TypeId) (x : SV) (i : Nat) : Tree (SV × Cx) :=
  match x, P.underlying t with
  | .ptr id off, some (.struct fields) =>
    match fields[i]? with
    | some f => match szT P f.type with
      | some (_ + 1) => .ret (.ptr id (off + f.offset), c)
      | _ => .bad
    | none => .bad
  | _, _ => .bad

theorem fieldAddrX_ok {t : TypeId} {x : SV} {vx : Value} {i : Nat} (hh : HeapDen U r g L c.h w) (hp : PcOk U r c.pc) (hx : x.den U r g L vx) (h : (fieldAddrX P c t x i).sat U (Post U L r g c w K) r) :
    VOk P (Instr.fieldAt t vx i) w K := by
  unfold fieldAddrX at h
  split at h
  · rename_i id off fields hu
    simp only [SV.den] at hx
    obtain ⟨hl, rfl⟩ := hx
    split at h
    · rename_i f hf
      split at h
      · rename_i n hs
        refine ⟨.pointer (some ⟨g.a id, off + f.offset, none⟩), w, ?_, Post.same h hh hp (Same.refl w) ⟨hl, rfl⟩⟩
        simp only [Instr.fieldAt, Sem.run_bind, run_und hu, Result.andThen_ok, hf, Instr.sureAddr, Sem.run_pure, fieldPlace, run_sizeOf_of hs]
        rw [if_neg (by omega), add_none]; rfl
      · exact h.elim
    · exact h.elim
  · exact h.elim

/-- The cells from one place on. -/
def cut (cs : List SV) (o n : Nat) : List SV := (cs.drop o).take n

def partX (P : Program) (c : Cx) (t : TypeId) (cs : List SV) (off : Nat) : Tree (SV × Cx) :=
  match aggT P t with
  | some true => match szT P t with
    | some n => if off + n ≤ cs.length then .ret (.agg (cut cs off n), c) else .bad
    | none => .bad
  | some false => match cs[off]? with
    | some s => .ret (s, c)
    | none => .bad
  | none => .bad

theorem denL_cut {cs : List SV} {xs : Array Value} {o n : Nat} (hd : SV.denL U r g L cs xs.toList) (hle : o + n ≤ cs.length) : SV.denL U r g L (cut cs o n) (xs.extract o (o + n)).toList := by
  have hl := SV.denL_length U r g L hd
  simp only [Array.length_toList] at hl
  refine SV.denL_of U r g L (by unfold cut; simp; omega) fun i s v h1 h2 => ?_
  unfold cut at h1
  rw [List.getElem?_take] at h1
  split at h1
  · rename_i hi
    rw [List.getElem?_drop] at h1
    obtain ⟨v', hv', hd'⟩ := SV.denL_get U r g L hd h1
    have : v = v' := by
      simp only [Array.toList_extract, List.extract_eq_take_drop, List.getElem?_take, List.getElem?_drop] at h2
      rw [if_pos (by omega), hv'] at h2
      exact (Option.some.inj h2).symm
    subst this; exact hd'
  · cases h1

theorem partX_ok {t : TypeId} {cs : List SV} {xs : Array Value} {off : Nat} (hh : HeapDen U r g L c.h w) (hp : PcOk U r c.pc) (hd : SV.denL U r g L cs xs.toList) (h : (partX P c t cs off).sat U (Post U L r g c w K) r) :
    VOk P (part t xs off) w K := by
  have hl := SV.denL_length U r g L hd
  simp only [Array.length_toList] at hl
  unfold partX at h
  split at h
  · rename_i ha
    split at h
    · rename_i n hs
      split at h
      · rename_i hle
        refine ⟨.agg (xs.extract off (off + n)), w, ?_, Post.same h hh hp (Same.refl w) ⟨_, rfl, denL_cut hd hle⟩⟩
        unfold part
        rw [Sem.run_bind, run_isAgg_of ha, Result.andThen_ok, if_pos rfl]
        simp only [Sem.run_bind, run_sizeOf_of hs, Result.andThen_ok]; rfl
      · exact h.elim
    · exact h.elim
  · rename_i ha
    split at h
    · rename_i s hs
      obtain ⟨v, hv, hd'⟩ := SV.denL_get U r g L hd hs
      refine ⟨v, w, ?_, Post.same h hh hp (Same.refl w) hd'⟩
      unfold part
      rw [Sem.run_bind, run_isAgg_of ha, Result.andThen_ok, if_neg (by simp)]
      have hv : xs[off]? = some v := by simpa using hv
      rw [hv]; rfl
    · exact h.elim
  · exact h.elim

def fieldX (P : Program) (c : Cx) (t : TypeId) (x : SV) (i : Nat) : Tree (SV × Cx) :=
  match x, P.underlying t with
  | .agg cs, some (.struct fields) =>
    match fields[i]? with
    | some f => partX P c f.type cs f.offset
    | none => .bad
  | _, _ => .bad

theorem fieldX_ok {t : TypeId} {x : SV} {vx : Value} {i : Nat} (hh : HeapDen U r g L c.h w) (hp : PcOk U r c.pc) (hx : x.den U r g L vx) (h : (fieldX P c t x i).sat U (Post U L r g c w K) r) :
    VOk P (Instr.field t vx i) w K := by
  unfold fieldX at h
  split at h
  · rename_i cs fields hu
    simp only [SV.den] at hx
    obtain ⟨xs, rfl, hd⟩ := hx
    split at h
    · rename_i f hf
      unfold Instr.field
      refine VOk.bind ⟨_, w, run_und hu w, ?_⟩
      simp only [hf]
      refine VOk.bind ⟨xs, w, rfl, ?_⟩
      exact partX_ok hh hp hd h
    · exact h.elim
  · exact h.elim

def indexAddrX (P : Program) (c : Cx) (t : TypeId) (x i : SV) : Tree (SV × Cx) :=
  match i with
  | .int _ (.i n) =>
    match P.underlying t, x with
    | some (.array len e), .ptr id off => match szT P e with
      | some s => if 0 ≤ n ∧ n < len then .ret (.ptr id (off + n.toNat * s), c) else .bad
      | none => .bad
    | some (.slice e), .sl id off _ len _ => match szT P e with
      | some s => if 0 ≤ n then br c (mk2 .ilt (.i n) len) (fun c => .ret (.ptr id (off + n.toNat * s), c)) (fun _ => .bad) else .bad
      | none => .bad
    | _, _ => .bad
  | _ => .bad

theorem indexAddrX_ok {t : TypeId} {x i : SV} {vx vi : Value} (hh : HeapDen U r g L c.h w) (hp : PcOk U r c.pc) (hx : x.den U r g L vx) (hi : i.den U r g L vi) (h : (indexAddrX P c t x i).sat U (Post U L r g c w K) r) :
    VOk P (Instr.indexAt t vx vi) w K := by
  unfold indexAddrX at h
  split at h
  · rename_i k n
    simp only [SV.den] at hi
    subst hi
    rw [toI_i]
    split at h
    · rename_i len e id off hu
      simp only [SV.den] at hx
      obtain ⟨hl, rfl⟩ := hx
      split at h
      · rename_i s hs
        split at h
        · rename_i hn
          refine ⟨_, w, ?_, Post.same h hh hp (Same.refl w) ⟨hl, rfl⟩⟩
          simp only [Instr.indexAt, asIntOf, Sem.run_bind, Sem.run_pure, Result.andThen_ok, run_und hu, Instr.sureAddr]
          rw [if_pos hn]
          simp only [Sem.run_bind, run_sizeOf_of hs, Result.andThen_ok, add_none]; rfl
        · exact h.elim
      · exact h.elim
    · rename_i e id off sz len cap hu
      simp only [SV.den] at hx
      obtain ⟨hl, h0, cp, rfl, h3, h4, h5⟩ := hx
      split at h
      · rename_i s hs
        split at h
        · rename_i hn
          obtain ⟨pc, hp', h | h⟩ := sat_br hp h
          · have hlt : n < (((len.ev U r).toI.toNat : Nat) : Int) := by
              have := h.1
              rw [mk2_ev] at this
              have : n < (len.ev U r).toI := of_decide_eq_true this
              omega
            refine ⟨_, w, ?_, Post.same h.2 hh hp' (Same.refl w) ⟨hl, rfl⟩⟩
            simp only [Instr.indexAt, asIntOf, Sem.run_bind, Sem.run_pure, Result.andThen_ok, run_und hu]
            rw [if_pos ⟨hn, hlt⟩]
            simp only [Sem.run_bind, run_sizeOf_of hs, Result.andThen_ok, add_none]; rfl
          · exact h.2.elim
        · exact h.elim
      · exact h.elim
    · exact h.elim
  · exact h.elim

def indexX (P : Program) (c : Cx) (t : TypeId) (x i : SV) : Tree (SV × Cx) :=
  match P.underlying t, x, i with
  | some (.array len e), .agg cs, .int _ (.i n) => match szT P e with
    | some s => if 0 ≤ n ∧ n < len then partX P c e cs (n.toNat * s) else .bad
    | none => .bad
  | some .string, .str s, .int _ n => br c (mk2 .ile (.i 0) n) (fun c => br c (mk2 .ilt n (mk1 .slen s)) (fun c => .ret (.int .u8 (mk2 .sidx s n), c)) (fun _ => .bad)) (fun _ => .bad)
  | _, _, _ => .bad

theorem indexX_ok {t : TypeId} {x i : SV} {vx vi : Value} (hh : HeapDen U r g L c.h w) (hp : PcOk U r c.pc) (hx : x.den U r g L vx) (hi : i.den U r g L vi) (h : (indexX P c t x i).sat U (Post U L r g c w K) r) :
    VOk P (Instr.index t vx vi) w K := by
  unfold indexX at h
  split at h
  · rename_i len e cs k n hu
    simp only [SV.den] at hx hi
    subst hi
    obtain ⟨xs, rfl, hd⟩ := hx
    rw [toI_i]
    split at h
    · rename_i s hs
      split at h
      · rename_i hn
        unfold Instr.index
        refine VOk.bind ⟨_, w, rfl, VOk.bind ⟨_, w, run_und hu w, ?_⟩⟩
        simp only [hn, and_self, if_true]
        refine VOk.bind ⟨_, w, run_sizeOf_of hs w, ?_⟩
        exact partX_ok hh hp hd h
      · exact h.elim
    · exact h.elim
  · rename_i s k n hu
    simp only [SV.den] at hx hi
    subst hi hx
    obtain ⟨pc, hp', h | h⟩ := sat_br hp h
    · obtain ⟨pc', hp'', h' | h'⟩ := sat_br (c := { c with pc := pc }) hp' h.2
      · have h0 : 0 ≤ (n.ev U r).toI := by
          have := h.1; rw [mk2_ev] at this; exact of_decide_eq_true this
        have h1 : (n.ev U r).toI < (s.ev U r).toS.size := by
          have := h'.1; rw [mk2_ev, mk1_ev] at this; exact of_decide_eq_true this
        have hlt : (n.ev U r).toI.toNat < (s.ev U r).toS.size := by omega
        refine ⟨.int .u8 ((s.ev U r).toS.data[(n.ev U r).toI.toNat]?.getD 0).toNat, w, ?_, Post.same h'.2 hh hp'' (Same.refl w) ?_⟩
        · unfold Instr.index
          simp only [asIntOf, Sem.run_bind, Sem.run_pure, Result.andThen_ok, run_und hu]
          have e : (s.ev U r).toS[(n.ev U r).toI.toNat]? = some ((s.ev U r).toS[(n.ev U r).toI.toNat]) := getElem?_pos (s.ev U r).toS (n.ev U r).toI.toNat hlt
          rw [e]
          have e2 : (s.ev U r).toS.data[(n.ev U r).toI.toNat]? = some ((s.ev U r).toS[(n.ev U r).toI.toNat]) := Array.getElem?_eq_getElem hlt
          rw [e2, if_pos h0]; rfl
        · simp only [SV.den, mk2_ev]; rfl
      · exact h'.2.elim
    · exact h.2.elim
  · exact h.elim

def extractX (c : Cx) (x : SV) (i : Nat) : Tree (SV × Cx) :=
  match x with
  | .tup vs => match vs[i]? with
    | some s => .ret (s, c)
    | none => .bad
  | _ => .bad

theorem extractX_ok {x : SV} {vx : Value} {i : Nat} (hh : HeapDen U r g L c.h w) (hp : PcOk U r c.pc) (hx : x.den U r g L vx) (h : (extractX c x i).sat U (Post U L r g c w K) r) : VOk P (Instr.extract vx i) w K := by
  unfold extractX at h
  split at h
  · simp only [SV.den] at hx
    obtain ⟨xs, rfl, hd⟩ := hx
    split at h
    · rename_i s hs
      obtain ⟨v, hv, hd'⟩ := SV.denL_get U r g L hd hs
      have hv : xs[i]? = some v := by simpa using hv
      refine ⟨v, w, by simp [Instr.extract, hv], Post.same h hh hp (Same.refl w) hd'⟩
    · exact h.elim
  · exact h.elim

/-! ### One operand; conversions -/

def unX (c : Cx) (op : UnOp) (x : SV) : Tree (SV × Cx) :=
  match op, x with
  | .neg, .int k e => .ret (.int k (mk1 (.wrap k) (mk2 .isub (.i 0) e)), c)
  | .xor, .int k e => .ret (.int k (mk2 (.ixor k) (.i (if k.signed then -1 else k.max)) e), c)
  | .neg, .flt k e => .ret (.flt k (mk1 (.fneg k) e), c)
  | .not, .bool e => .ret (.bool (mk1 .not e), c)
  | _, _ => .bad

theorem unX_ok {op : UnOp} {x : SV} {vx : Value} (hh : HeapDen U r g L c.h w) (hp : PcOk U r c.pc) (hx : x.den U r g L vx) (h : (unX c op x).sat U (Post U L r g c w K) r) : VOk P (Op.unary op vx) w K := by
  unfold unX at h
  split at h
  · simp only [SV.den] at hx; subst hx
    exact Post.pureOk h hh hp (by simp only [SV.den, mk1_ev, mk2_ev]; rfl)
  · simp only [SV.den] at hx; subst hx
    exact Post.pureOk h hh hp (by simp only [SV.den, mk2_ev]; rfl)
  · simp only [SV.den] at hx
    obtain ⟨b, rfl, h1, h2⟩ := hx
    refine Post.pureOk h hh hp ⟨_, rfl, negFloat_lt _ h1, ?_⟩
    rw [neg_cn _ h1, h2, mk1_ev]; rfl
  · simp only [SV.den] at hx; subst hx
    exact Post.pureOk h hh hp (by simp only [SV.den, mk1_ev]; rfl)
  · exact h.elim

def convX (P : Program) (c : Cx) (s t : TypeId) (x : SV) : Tree (SV × Cx) :=
  match P.underlying s, P.underlying t, x with
  | some _, some (.int k), .int _ e => .ret (.int k (mk1 (.wrap k) e), c)
  | some _, some (.float k), .int _ e => .ret (.flt k (mk1 (.i2f k) e), c)
  | some _, some (.float k), .flt q e =>
    if q = k then .ret (.flt k e, c)
    else if q = .f32 ∧ k = .f64 then .ret (.flt k (mk1 (.conv q k) e), c)
    else br c (mk1 (.convOk q k) e) (fun c => .ret (.flt k (mk1 (.conv q k) e), c)) (fun _ => .bad)
  | some .string, some .string, .str e => .ret (.str e, c)
  | _, _, _ => .bad

theorem decode_nan {k : FloatKind} {b : Nat} (h : isNanW k b = false) : ∀ s t, k.decode b ≠ .nan s t := by
  intro s t e
  unfold isNanW at h
  have : k.format.read b = .nan s t := e
  rw [this] at h
  cases h

theorem floatToFloat_run {s d : FloatKind} {b : Nat} (hne : s ≠ d) (hok : Fl.convOk s d (cn s b) = true) (w : World) :
    ∃ b' w', (Conv.floatToFloat s b d).run P w = .ok (.float d b') w' ∧ b' < 2 ^ d.format.width ∧ cn d b' = Fl.conv s d (cn s b) ∧ Same w w' := by
  unfold Conv.floatToFloat
  rw [if_neg hne]
  cases hn : isNanW s b with
  | true =>
    obtain ⟨sg, t, hr⟩ := read_nan hn
    have hr : s.decode b = .nan sg t := hr
    simp only [hr]
    obtain ⟨h1, h2, h3⟩ := nan_drawn (.nanConv d b) d (.inr ⟨b, rfl⟩) (w.tape w.drawn (.nanConv d b))
    refine ⟨_, { w with drawn := w.drawn + 1 }, ?_, h2, ?_, ⟨rfl, rfl, rfl, rfl⟩⟩
    · simp [h1]
    · rw [h3, cn_of_nan hn]; rfl
  | false =>
    rw [cn_of_not hn] at hok ⊢
    simp only [Fl.conv, if_neg hne]
    simp only [Fl.convOk, Bool.or_eq_true, decide_eq_true_eq, Bool.not_eq_true'] at hok
    cases hd : s.decode b with
    | nan sg t => exact absurd hd (decode_nan hn sg t)
    | infinity sg =>
      refine ⟨_, w, rfl, encode_lt d _, encode_cn d rfl, Same.refl w⟩
    | number sg m e =>
      rw [hd] at hok
      have h1 : (d.decode (d.encode (.number sg m e))).isInfinity = false := by
        rcases hok with (h | h) | h
        · exact absurd h hne
        · cases h
        · exact h
      simp only [h1, Bool.false_eq_true, if_false]
      exact ⟨_, w, rfl, encode_lt d _, encode_cn d rfl, Same.refl w⟩

theorem convX_ok {s t : TypeId} {x : SV} {vx : Value} (hh : HeapDen U r g L c.h w) (hp : PcOk U r c.pc) (hx : x.den U r g L vx) (h : (convX P c s t x).sat U (Post U L r g c w K) r) : VOk P (convert s t vx) w K := by
  unfold convX at h
  split at h
  · rename_i u k q e hs ht
    simp only [SV.den] at hx; subst hx
    refine ⟨.int k (k.wrap (e.ev U r).toI), w, ?_, Post.same h hh hp (Same.refl w) (by simp only [SV.den, mk1_ev]; rfl)⟩
    cases u <;> simp only [convert, Sem.run_bind, run_und hs, run_und ht, Result.andThen_ok] <;> rfl
  · rename_i u k q e hs ht
    simp only [SV.den] at hx; subst hx
    refine ⟨_, w, run_convert_int_float w s t q k _ (by rw [hs]; rfl) ht, Post.same h hh hp (Same.refl w) ?_⟩
    refine ⟨_, rfl, nearest_wd k _, ?_⟩
    rw [mk1_ev]; exact nearest_cn k _
  · rename_i u k q e hs ht
    simp only [SV.den] at hx
    obtain ⟨b, rfl, h1, h2⟩ := hx
    have hrun : ∀ w, (convert s t (.float q b)).run P w = (Conv.floatToFloat q b k).run P w := by
      intro w
      cases u <;> simp only [convert, Sem.run_bind, run_und hs, run_und ht, Result.andThen_ok]
    split at h
    · rename_i he
      subst he
      refine ⟨.float q b, w, by rw [hrun]; simp [Conv.floatToFloat], Post.same h hh hp (Same.refl w) ⟨b, rfl, h1, h2⟩⟩
    · rename_i he
      split at h
      · rename_i hqk
        obtain ⟨rfl, rfl⟩ := hqk
        obtain ⟨b', w', k1, k2, k3, k4⟩ := floatToFloat_run (P := P) he (widen_ok b) w
        refine ⟨_, w', by rw [hrun]; exact k1, Post.same h hh hp k4 ⟨b', rfl, k2, ?_⟩⟩
        rw [k3, h2, mk1_ev]; rfl
      obtain ⟨pc, hp', h | h⟩ := sat_br hp h
      · have hok : Fl.convOk q k (cn q b) = true := by
          have := h.1; rw [mk1_ev] at this; rw [h2]; exact this
        obtain ⟨b', w', k1, k2, k3, k4⟩ := floatToFloat_run (P := P) he hok w
        refine ⟨_, w', by rw [hrun]; exact k1, Post.same h.2 hh hp' k4 ⟨b', rfl, k2, ?_⟩⟩
        rw [k3, h2, mk1_ev]; rfl
      · exact h.2.elim
  · rename_i e hs ht
    simp only [SV.den] at hx; subst hx
    refine ⟨_, w, ?_, Post.same h hh hp (Same.refl w) rfl⟩
    simp only [convert, Sem.run_bind, run_und hs, run_und ht, Result.andThen_ok]; rfl
  · exact h.elim

def nilCheckX (c : Cx) (x : SV) : Tree (SV × Cx) :=
  match x with
  | .ptr id off => .ret (.ptr id off, c)
  | .fn (.func f) xs ys => .ret (.fn (.func f) xs ys, c)
  | _ => .bad

/-- What is known of an expression's truth. -/
def known (e : E) (pc : List (E × Bool)) : Option Bool :=
  match e with
  | .b x => some x
  | .o1 .not e => (look e pc).map not
  | e => look e pc

theorem known_ok {e : E} {pc : List (E × Bool)} {x : Bool} (hp : PcOk U r pc) (h : known e pc = some x) : (e.ev U r).toB = x := by
  unfold known at h
  split at h
  · cases h; rfl
  · rename_i e
    simp only [Option.map_eq_some_iff] at h
    obtain ⟨y, h1, rfl⟩ := h
    have := look_ok hp h1
    show (!(e.ev U r).toB) = _
    rw [this]
  · exact look_ok hp h

/-- A choice between two values of one kind. -/
def pickX (c : Cx) (e : E) (x y : SV) : Tree (SV × Cx) :=
  match known e c.pc with
  | some true => .ret (x, c)
  | some false => .ret (y, c)
  | none =>
    match x, y with
    | .bool p, .bool q => .ret (.bool (mkIte e p q), c)
    | x, y => br c e (fun c => .ret (x, c)) (fun c => .ret (y, c))

theorem pickX_ok {e : E} {x y : SV} {vx vy : Value} (hh : HeapDen U r g L c.h w) (hp : PcOk U r c.pc) (hx : x.den U r g L vx) (hy : y.den U r g L vy) (h : (pickX c e x y).sat U (Post U L r g c w K) r) :
    K (if (e.ev U r).toB then vx else vy) w := by
  unfold pickX at h
  split at h
  · rename_i hk; rw [if_pos (known_ok hp hk)]; exact Post.same h hh hp (Same.refl w) hx
  · rename_i hk; rw [if_neg (by rw [known_ok hp hk]; simp)]; exact Post.same h hh hp (Same.refl w) hy
  · split at h
    · refine Post.same h hh hp (Same.refl w) ?_
      simp only [SV.den, mkIte_ev] at hx hy ⊢
      subst hx hy
      split <;> rfl
    · obtain ⟨pc, hp', h | h⟩ := sat_br hp h
      · rw [if_pos h.1]; exact Post.same h.2 hh hp' (Same.refl w) hx
      · rw [if_neg (by simp [h.1])]; exact Post.same h.2 hh hp' (Same.refl w) hy
end
end Go.Sx
