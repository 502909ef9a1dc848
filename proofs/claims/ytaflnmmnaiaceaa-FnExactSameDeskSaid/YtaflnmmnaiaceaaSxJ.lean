/-
  Sx, part J: every operation that calls no function.
-/
import Derived.Test.YtaflnmmnaiaceaaSxJb
namespace Go.Sx
open E (mk1 mk2 mkIte mk1_ev mk2_ev mkIte_ev)

section
variable {U : Nat → D → D} {L : Nat → Prop} {r : Nat → D} {g : Gh} {c : Cx} {w w' : World} {P : Program} {K : Value → World → Prop}

def lenX (P : Program) (c : Cx) (t : TypeId) (x : SV) : Tree (SV × Cx) :=
  match P.underlying t, x with
  | some (.slice _), .sl _ _ _ len _ => .ret (.int .i64 len, c)
  | some (.slice _), .con (.slice none n _) => .ret (.int .i64 (.i n), c)
  | some .string, .str s => .ret (.int .i64 (mk1 .slen s), c)
  | some (.array n _), _ => .ret (.int .i64 (.i n), c)
  | _, _ => .bad

theorem lenX_ok {t ty : TypeId} {x : SV} {vx : Value} (hh : HeapDen U r g L c.h w) (hp : PcOk U r c.pc) (hx : x.den U r g L vx) (h : (lenX P c t x).sat U (Post U L r g c w K) r) :
    VOk P (Builtin.len_ #[t] ty #[vx]) w K := by
  unfold lenX at h
  have g0 : (#[t] : Array TypeId)[0]? = some t := rfl
  have g1 : (#[vx] : Array Value)[0]? = some vx := rfl
  split at h
  · rename_i hu
    simp only [SV.den] at hx
    obtain ⟨hl, h0, cp, rfl, _⟩ := hx
    refine ⟨_, w, by simp only [Builtin.len_, g0, g1, Sem.run_bind, run_und hu, Result.andThen_ok, Sem.run_pure]; rfl, Post.same h hh hp (Same.refl w) ?_⟩
    simp only [SV.den, goInt]
    rw [Int.toNat_of_nonneg h0]
  · rename_i hu
    simp only [SV.den] at hx
    subst hx
    exact ⟨_, w, by simp only [Builtin.len_, g0, g1, Sem.run_bind, run_und hu, Result.andThen_ok, Sem.run_pure]; rfl, Post.same h hh hp (Same.refl w) rfl⟩
  · rename_i hu
    simp only [SV.den] at hx
    subst hx
    refine ⟨_, w, by simp only [Builtin.len_, g0, g1, Sem.run_bind, run_und hu, Result.andThen_ok, Sem.run_pure]; rfl, Post.same h hh hp (Same.refl w) ?_⟩
    simp only [SV.den, mk1_ev]; rfl
  · rename_i hu
    exact ⟨_, w, by simp only [Builtin.len_, g0, g1, Sem.run_bind, run_und hu, Result.andThen_ok, Sem.run_pure]; rfl, Post.same h hh hp (Same.refl w) rfl⟩
  · exact h.elim

def lenY (P : Program) (c : Cx) (t : TypeId) (x : SV) : Tree (SV × Cx) :=
  match P.underlying t, x with
  | some (.slice _), .slo _ _ len => .ret (.int .i64 len, c)
  | _, x => lenX P c t x

theorem lenY_ok {t ty : TypeId} {x : SV} {vx : Value} (hh : HeapDen U r g L c.h w) (hp : PcOk U r c.pc) (hx : x.den U r g L vx) (h : (lenY P c t x).sat U (Post U L r g c w K) r) :
    VOk P (Builtin.len_ #[t] ty #[vx]) w K := by
  unfold lenY at h
  have g0 : (#[t] : Array TypeId)[0]? = some t := rfl
  have g1 : (#[vx] : Array Value)[0]? = some vx := rfl
  split at h
  · rename_i hu
    simp only [SV.den] at hx
    obtain ⟨h0, base, cp, rfl, _⟩ := hx
    refine ⟨_, w, by simp only [Builtin.len_, g0, g1, Sem.run_bind, run_und hu, Result.andThen_ok, Sem.run_pure]; rfl, Post.same h hh hp (Same.refl w) ?_⟩
    simp only [SV.den, goInt]
    rw [Int.toNat_of_nonneg h0]
  · exact lenX_ok hh hp hx h

def isSloV : SV → Bool
  | .slo _ _ _ => true
  | _ => false

def appendW (P : Program) (c : Cx) (t0 t1 : TypeId) (x y : SV) : Tree (SV × Cx) := if isSloV x || isSloV y then appendZ P c t0 t1 x y else appendX P c t0 t1 x y

theorem appendW_ok {t0 t1 ty : TypeId} {x y : SV} {vx vy : Value} (hh : HeapDen U r g L c.h w) (hp : PcOk U r c.pc) (hx : x.den U r g L vx) (hy : y.den U r g L vy)
    (h : (appendW P c t0 t1 x y).sat U (Post U L r g c w K) r) : VOk P (Builtin.append_ #[t0, t1] ty #[vx, vy]) w K := by
  unfold appendW at h
  split at h
  · exact appendZ_ok hh hp hx hy h
  · exact appendX_ok hh hp hx hy h

def makeSliceY (P : Program) (c : Cx) (t : TypeId) (x y : SV) : Tree (SV × Cx) :=
  match x, y with
  | .int _ (.i _), .int _ (.i _) => makeSliceX P c t x y
  | _, _ => makeSliceZ P c t x y

theorem makeSliceY_ok {t : TypeId} {x y : SV} {vx vy : Value} (hh : HeapDen U r g L c.h w) (hp : PcOk U r c.pc) (hx : x.den U r g L vx) (hy : y.den U r g L vy) (h : (makeSliceY P c t x y).sat U (Post U L r g c w K) r) :
    VOk P (Instr.makeSlice t vx vy) w K := by
  unfold makeSliceY at h
  split at h
  · exact makeSliceX_ok hh hp hx hy h
  · exact makeSliceZ_ok hh hp hx hy h

/-- One operation that calls no function of the program. -/
def opx (P : Program) (c : Cx) (ev : Operand → SV) : Op → Tree (SV × Cx)
  | .move x => .ret (ev x, c)
  | .assign x => .ret (ev x, c)
  | .pick b x y => match ev b with
    | .bool e => pickX c e (ev x) (ev y)
    | _ => .bad
  | .alloc t => allocX P c t
  | .box _ x => boxX c (ev x)
  | .build t parts => buildX P c t (parts.toList.map fun p => (p.1, ev p.2))
  | .buildSlice t len parts => buildSliceX P c t len (parts.toList.map fun p => (p.1, ev p.2))
  | .load t x => loadY P c t (ev x)
  | .store t x y => storeY P c t (ev x) (ev y)
  | .nilCheck x => nilCheckY c (ev x)
  | .binOp op t x y _ => bin P c op t (ev x) (ev y)
  | .unOp op _ x => unX c op (ev x)
  | .convert s t x => convXX P c s t (ev x)
  | .makeSlice t x y => makeSliceY P c t (ev x) (ev y)
  | .makeFunc fn xs ys => .ret (.fn fn (xs.toList.map ev) (ys.toList.map ev), c)
  | .slice t x lo hi none => sliceX P c t (ev x) (lo.map ev) (hi.map ev)
  | .fieldAddr t x i => fieldAddrY P c t (ev x) i
  | .field t x i => fieldX P c t (ev x) i
  | .indexAddr t x i => indexAddrY P c t (ev x) (ev i)
  | .index t x i => indexX P c t (ev x) (ev i)
  | .extract x i => extractX c (ev x) i
  | .call cl => match cl.callee, cl.args.toList, cl.argTypes.toList with
    | .builtin .append, [x, y], [t0, t1] => appendW P c t0 t1 (ev x) (ev y)
    | .builtin .copy, [x, y], [t0, _] => copyX P c t0 (ev x) (ev y)
    | .builtin .len, [x], [t] => lenY P c t (ev x)
    | _, _, _ => .bad
  | _ => .bad

/-- What is asked of the run of an operation. -/
def OpGoal (P : Program) (o : Oper) (a : Act) (w : World) (K : Value → World → Prop) : Prop :=
  match (execOp a.eval o).run P w with
  | .ok (.value v) w' => K v w'
  | .ok .skip w' => K undef w'
  | .ok (.enter f args) w' => Calls P f args w' fun e w'' => ∃ v, e = .returned v ∧ K v w''
  | _ => False

theorem opGoal_v {o : Oper} {a : Act} {s : Sem Value} (he : execOp a.eval o = (do pure (.value (← s)))) (h : VOk P s w K) : OpGoal P o a w K := by
  obtain ⟨v, w', h1, h2⟩ := h
  unfold OpGoal
  rw [he, Sem.run_bind, h1]
  exact h2

theorem opGoal_u {o : Oper} {a : Act} {s : Sem Unit} (he : execOp a.eval o = (do s; pure .skip)) (h : VOk P s w fun _ w' => K undef w') : OpGoal P o a w K := by
  obtain ⟨v, w', h1, h2⟩ := h
  unfold OpGoal
  rw [he, Sem.run_bind, h1]
  exact h2

theorem opGoal_pure {o : Oper} {a : Act} {v : Value} (he : execOp a.eval o = pure (.value v)) (h : K v w) : OpGoal P o a w K := by
  unfold OpGoal
  rw [he]
  exact h

theorem partsDen_map {ev : Operand → SV} {a : Act} (hev : ∀ x, (ev x).den U r g L (a.eval x)) : ∀ (l : List (Nat × Operand)), PartsDen U r g L (l.map fun p => (p.1, ev p.2)) (l.map fun p => (p.1, a.eval p.2))
  | [] => trivial
  | p :: l => ⟨rfl, hev p.2, partsDen_map hev l⟩

theorem denL_map_ev {ev : Operand → SV} {a : Act} (hev : ∀ x, (ev x).den U r g L (a.eval x)) : ∀ (l : List Operand), SV.denL U r g L (l.map ev) (l.map a.eval)
  | [] => by simp [SV.denL]
  | x :: l => by simp only [List.map, SV.denL]; exact ⟨hev x, denL_map_ev hev l⟩

theorem optDen_map {ev : Operand → SV} {a : Act} (hev : ∀ x, (ev x).den U r g L (a.eval x)) (o : Option Operand) : OptDen U r g L (o.map ev) (o.map a.eval) := by
  cases o with
  | none => trivial
  | some x => exact hev x

theorem opx_ok {o : Oper} {a : Act} {ev : Operand → SV} (hh : HeapDen U r g L c.h w) (hp : PcOk U r c.pc) (hev : ∀ x, (ev x).den U r g L (a.eval x)) (h : (opx P c ev o.op).sat U (Post U L r g c w K) r) :
    OpGoal P o a w K := by
  obtain ⟨dst, op, type, pos, after, guard⟩ := o
  cases op <;> simp only [opx] at h <;> (try exact h.elim)
  case move x => exact opGoal_pure rfl (Post.same h hh hp (Same.refl w) (hev x))
  case assign x => exact opGoal_pure rfl (Post.same h hh hp (Same.refl w) (hev x))
  case pick b x y =>
    split at h
    · rename_i e he
      have hb := hev b
      rw [he] at hb
      simp only [SV.den] at hb
      refine opGoal_pure (v := if (e.ev U r).toB then a.eval x else a.eval y) ?_ (pickX_ok hh hp (hev x) (hev y) h)
      simp only [execOp, hb]
      rfl
    · exact h.elim
  case alloc t => exact opGoal_v rfl (allocX_ok hh hp h)
  case box t x => exact opGoal_v rfl (boxX_ok hh hp (hev x) h)
  case build t parts => exact opGoal_v rfl (buildX_ok hh hp (by have := partsDen_map hev parts.toList; simpa using this) h)
  case buildSlice t len parts => exact opGoal_v rfl (buildSliceX_ok hh hp (by have := partsDen_map hev parts.toList; simpa using this) h)
  case load t x => exact opGoal_v rfl (loadY_ok hh hp (hev x) h)
  case store t x y => exact opGoal_u rfl (storeY_ok hh hp (hev x) (hev y) h)
  case nilCheck x =>
    unfold nilCheckY at h
    have hx := hev x
    split at h
    · rename_i id sz i f he
      rw [he] at hx
      simp only [SV.den] at hx
      refine opGoal_pure (v := a.eval x) ?_ (Post.same h hh hp (Same.refl w) hx)
      simp only [execOp]; rw [hx.2.2]
    unfold nilCheckX at h
    split at h
    · rename_i id off he
      rw [he] at hx
      simp only [SV.den] at hx
      refine opGoal_pure (v := a.eval x) ?_ (Post.same h hh hp (Same.refl w) hx)
      simp only [execOp]; rw [hx.2]
    · rename_i f xs ys he
      rw [he] at hx
      simp only [SV.den] at hx
      refine opGoal_pure (v := a.eval x) ?_ (Post.same h hh hp (Same.refl w) hx)
      obtain ⟨p, q, hv, _⟩ := hx
      simp only [execOp]; rw [hv]
    · exact h.elim
  case binOp op t x y yt => exact opGoal_v rfl (bin_ok x y hh hp (hev x) (hev y) h)
  case unOp op t x => exact opGoal_v rfl (unX_ok hh hp (hev x) h)
  case convert s t x => exact opGoal_v rfl (convXX_ok hh hp (hev x) h)
  case makeFunc fn xs ys =>
    refine opGoal_v (s := Instr.makeFunc fn (xs.map a.eval) (ys.map a.eval)) rfl ⟨.func fn (xs.map a.eval) (ys.map a.eval), w, rfl, Post.same h hh hp (Same.refl w) ?_⟩
    simp only [SV.den]
    exact ⟨_, _, rfl, by have := denL_map_ev hev xs.toList; simpa using this, by have := denL_map_ev hev ys.toList; simpa using this⟩
  case makeSlice t x y => exact opGoal_v rfl (makeSliceY_ok hh hp (hev x) (hev y) h)
  case slice t x lo hi mx =>
    cases mx with
    | none => exact opGoal_v rfl (sliceX_ok hh hp (hev x) (optDen_map hev lo) (optDen_map hev hi) h)
    | some m => exact h.elim
  case fieldAddr t x i => exact opGoal_v rfl (fieldAddrY_ok hh hp (hev x) h)
  case field t x i => exact opGoal_v rfl (fieldX_ok hh hp (hev x) h)
  case indexAddr t x i => exact opGoal_v rfl (indexAddrY_ok hh hp (hev x) (hev i) h)
  case index t x i => exact opGoal_v rfl (indexX_ok hh hp (hev x) (hev i) h)
  case extract x i => exact opGoal_v rfl (extractX_ok hh hp (hev x) h)
  case call cl =>
    obtain ⟨callee, args, argTypes⟩ := cl
    split at h
    · rename_i x y t0 t1 hc ha ht
      obtain rfl : callee = .builtin .append := hc
      obtain rfl : args = #[x, y] := by apply Array.toList_inj.1; exact ha
      obtain rfl : argTypes = #[t0, t1] := by apply Array.toList_inj.1; exact ht
      refine opGoal_v (s := Builtin.append_ #[t0, t1] type #[a.eval x, a.eval y]) (by simp [execOp, resolve, invoke, builtin]) (appendW_ok hh hp (hev x) (hev y) h)
    · rename_i x y t0 t1 hc ha ht
      obtain rfl : callee = .builtin .copy := hc
      obtain rfl : args = #[x, y] := by apply Array.toList_inj.1; exact ha
      obtain rfl : argTypes = #[t0, t1] := by apply Array.toList_inj.1; exact ht
      refine opGoal_v (s := Builtin.copy_ #[t0, t1] type #[a.eval x, a.eval y]) (by simp [execOp, resolve, invoke, builtin]) (copyX_ok hh hp (hev x) (hev y) h)
    · rename_i x t hc ha ht
      obtain rfl : callee = .builtin .len := hc
      obtain rfl : args = #[x] := by apply Array.toList_inj.1; exact ha
      obtain rfl : argTypes = #[t] := by apply Array.toList_inj.1; exact ht
      refine opGoal_v (s := Builtin.len_ #[t] type #[a.eval x]) (by simp [execOp, resolve, invoke, builtin]) (lenY_ok hh hp (hev x) h)
    · exact h.elim
end
end Go.Sx
