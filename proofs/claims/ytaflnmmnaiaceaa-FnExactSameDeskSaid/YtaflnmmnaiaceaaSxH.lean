/-
  Sx, part H: slices: written out, cut, appended to.
-/
import Derived.Test.YtaflnmmnaiaceaaSxG
namespace Go.Sx
open E (mk1 mk2 mkIte mk1_ev mk2_ev mkIte_ev)

section
variable {U : Nat → D → D} {L : Nat → Prop} {r : Nat → D} {g : Gh} {c : Cx} {w : World} {P : Program} {K : Value → World → Prop}

/-! ### '[]T{..}' -/

theorem fillS_length {place : Nat → Option (Nat × Nat)} : ∀ {parts : List (Nat × SV)} {cells out : List SV}, fillS place cells parts = some out → out.length = cells.length := by
  intro parts
  induction parts with
  | nil => intro cells out h; simp [fillS] at h; rw [h]
  | cons a rest ih =>
    intro cells out h
    obtain ⟨i, s⟩ := a
    simp only [fillS] at h
    split at h
    · split at h
      · rename_i hc; rw [ih h, putL_length hc.2]
      · cases h
    · cases h

def zerosS (zs : List SV) (n : Nat) : List SV := (List.range n).map fun i => zs.getD (i % zs.length) .any

theorem zerosS_den {zs : List SV} {z : Array Value} {n : Nat} (hd : SV.denL U r g L zs z.toList) : SV.denL U r g L (zerosS zs n) ((Array.range n).map (z[· % z.size]!)).toList := by
  have hl := SV.denL_length U r g L hd
  simp only [Array.length_toList] at hl
  refine SV.denL_of U r g L (by simp [zerosS]) fun i s v h1 h2 => ?_
  simp only [zerosS, List.getElem?_map] at h1
  simp only [Array.toList_map, List.getElem?_map, Array.toList_range] at h2
  by_cases hi : i < n
  · rw [List.getElem?_range hi] at h1 h2
    simp only [Option.map_some, Option.some.injEq] at h1 h2
    rw [hl] at h1
    cases hz : zs[i % z.size]? with
    | none =>
      have : zs.getD (i % z.size) SV.any = .any := by rw [List.getD_eq_getElem?_getD, hz]; rfl
      rw [this] at h1; subst h1; trivial
    | some s' =>
      have : zs.getD (i % z.size) SV.any = s' := by rw [List.getD_eq_getElem?_getD, hz]; rfl
      rw [this] at h1; subst h1
      obtain ⟨v', hv', hd'⟩ := SV.denL_get U r g L hd hz
      have hv' : z[i % z.size]? = some v' := by simpa using hv'
      have : z[i % z.size]! = v' := by rw [getElem!_def, hv']
      rw [← h2, this]; exact hd'
  · rw [List.getElem?_eq_none (by simp; omega)] at h1; cases h1

def buildSliceX (P : Program) (c : Cx) (t : TypeId) (len : Nat) (parts : List (Nat × SV)) : Tree (SV × Cx) :=
  match P.underlying t with
  | some (.slice e) =>
    match szT P e, (if len = 0 then some #[] else (zeroT P e).map (·.cells)) with
    | some n, some z =>
      if len * n ≤ 16777216 ∧ n ≠ 0 then
        match (if len = 0 then some [] else (ofValue (.agg z)).cells?) with
        | some zs =>
          match fillS (fun i => some (i * n, n)) (zerosS zs (len * n)) parts with
          | some cs => .ret (.sl c.h.length 0 n (.i len) (some (.i len)), { c with h := c.h ++ [some ⟨true, cs, none⟩] })
          | none => .bad
        | none => .bad
      else .bad
    | _, _ => .bad
  | _ => .bad

theorem buildSliceX_ok {t : TypeId} {len : Nat} {parts : List (Nat × SV)} {vparts : Array (Nat × Value)} (hh : HeapDen U r g L c.h w) (hp : PcOk U r c.pc) (hd : PartsDen U r g L parts vparts.toList)
    (h : (buildSliceX P c t len parts).sat U (Post U L r g c w K) r) : VOk P (Instr.buildSlice t len vparts) w K := by
  unfold buildSliceX at h
  split at h
  · rename_i e hu
    split at h
    · rename_i n z hs hz
      split at h
      · rename_i hle
        split at h
        · rename_i zs hzs
          split at h
          · rename_i cs hf
            have hzd : SV.denL U r g L zs z.toList := by
              split at hzs
              · rename_i h0; rw [if_pos h0] at hz; cases hzs; cases hz; simp [SV.denL]
              · exact (cells_ok (U := U) (L := L) (r := r) (g := g) hzs (ofValue_den (.agg z))).1
            obtain ⟨ys, hy, hyd⟩ := fillS_ok hf (zerosS_den hzd) hd
            have hyl := SV.denL_length U r g L hyd
            have hcl := fillS_length hf
            have hzl : (zerosS zs (len * n)).length = len * n := by simp [zerosS]
            simp only [Array.length_toList] at hyl
            have hrun : (Instr.buildSlice t len vparts).run P w = .ok (.slice (some ⟨w.heap.size, 0, none⟩) len len) (w.alloc (.cells ys e)) := by
              unfold Instr.buildSlice
              simp only [Sem.run_bind, run_und hu, Result.andThen_ok, run_sizeOf_of hs]
              rw [if_neg (by omega)]
              by_cases h0 : len = 0
              · subst h0
                rw [if_pos rfl] at hz; cases hz
                simp only [Nat.zero_mul] at hy
                simp only [Nat.zero_mul, if_true, Sem.run_bind, Sem.run_pure, Result.andThen_ok]
                rw [hy]
                simp [newRow]
              · rw [if_neg h0] at hz
                cases hz0 : zeroT P e with
                | none => rw [hz0] at hz; cases hz
                | some z0 =>
                  rw [hz0] at hz
                  simp only [Option.map_some, Option.some.injEq] at hz
                  have hne : ¬ len * n = 0 := by
                    intro h'; rcases Nat.mul_eq_zero.1 h' with h' | h'
                    · exact h0 h'
                    · exact hle.2 h'
                  rw [if_neg hne]
                  simp only [Sem.run_bind, run_zero_of hz0, Result.andThen_ok, Sem.run_pure]
                  rw [hz, hy]
                  simp [newRow]
            refine ⟨_, _, hrun, ?_⟩
            refine h _ _ _ (ext_alloc (xs := ys) hh hp e (by rw [hyl, ← Array.length_toList, List.take_length]; exact hyd) (by omega) true) ?_
            simp only [SV.den]
            refine ⟨.inr ⟨Nat.le_refl _, by simp⟩, ?_, len, ?_, ?_, ?_, ?_⟩
            · show (0 : Int) ≤ (len : Int); omega
            · show _ = Value.slice (some ⟨(g.put c.h.length w.heap.size ys.size).a c.h.length, 0, none⟩) ((len : Int)).toNat len
              simp [Gh.put]
            · show ((len : Int)).toNat ≤ len; omega
            · show 0 + len * n ≤ (g.put c.h.length w.heap.size ys.size).n c.h.length
              simp [Gh.put]; omega
            · intro e he; cases he; show len = ((len : Int)).toNat; omega
          · exact h.elim
        · exact h.elim
      · exact h.elim
    · exact h.elim
  · exact h.elim

/-! ### 'x[lo:hi]' -/

def litNat : Option SV → Nat → Option Nat
  | none, d => some d
  | some (.int _ (.i n)), _ => if 0 ≤ n then some n.toNat else none
  | _, _ => none

def sliceX (P : Program) (c : Cx) (t : TypeId) (x : SV) (lo hi : Option SV) : Tree (SV × Cx) :=
  match P.underlying t, x with
  | some (.slice e), .sl id off sz (.i len) cap =>
    match szT P e, litNat lo 0, litNat hi len.toNat with
    | some n, some l, some h =>
      match cap with
      | some (.i cp) => if sz = n ∧ l ≤ h ∧ (h : Int) ≤ cp then .ret (.sl id (if cp.toNat = l then off else off + l * n) n (.i (h - l : Nat)) (some (.i (cp.toNat - l : Nat))), c) else .bad
      | none => if sz = n ∧ l ≤ h ∧ (h : Int) ≤ len ∧ (l = 0 ∨ (l : Int) < len) then .ret (.sl id (off + l * n) n (.i (h - l : Nat)) none, c) else .bad
      | _ => .bad
    | _, _, _ => .bad
  | some .string, .str s =>
    match (match lo with | none => some (E.i 0) | some (.int _ e) => some e | _ => none), (match hi with | none => some (mk1 .slen s) | some (.int _ e) => some e | _ => none) with
    | some l, some h => br c (mk2 .ile (.i 0) l) (fun c => br c (mk2 .ile l h) (fun c => br c (mk2 .ile h (mk1 .slen s)) (fun c => .ret (.str (.o3 .ssub s l h), c)) (fun _ => .bad)) (fun _ => .bad)) (fun _ => .bad)
    | _, _ => .bad
  | _, _ => .bad

/-- What stands where a bound may stand. -/
def OptDen (U : Nat → D → D) (r : Nat → D) (g : Gh) (L : Nat → Prop) : Option SV → Option Value → Prop
  | none, none => True
  | some s, some v => s.den U r g L v
  | _, _ => False

theorem litNat_ok {o : Option SV} {v : Option Value} {d n : Nat} (h : litNat o d = some n) (hd : OptDen U r g L o v) : (v = none ∧ n = d) ∨ ∃ k, v = some (.int k n) := by
  unfold litNat at h
  split at h
  · cases v with
    | none => cases h; exact .inl ⟨rfl, rfl⟩
    | some v => exact hd.elim
  · rename_i k m
    split at h
    · rename_i h0
      cases h
      cases v with
      | none => exact hd.elim
      | some v =>
        have hd : v = .int k m := hd
        subst hd
        right; refine ⟨k, ?_⟩
        rw [Int.toNat_of_nonneg h0]
    · cases h
  · cases h

theorem sliceBound_run {k : IntKind} {n y : Nat} (code : BoundsCode) (h : n ≤ y) (w : World) : (Instr.sliceBound (.int k n) y code).run P w = .ok n w := by
  unfold Instr.sliceBound
  simp only [asIntOf, Sem.run_bind, Sem.run_pure, Result.andThen_ok]
  rw [if_pos ⟨by omega, by omega⟩]
  simp

theorem sliceBounds_run {b : Bool} {len cap l h : Nat} {vl vh : Option Value} (hl : (vl = none ∧ l = 0) ∨ ∃ k, vl = some (.int k l)) (hv : (vh = none ∧ h = len) ∨ ∃ k, vh = some (.int k h)) (h1 : l ≤ h) (h2 : h ≤ cap) (w : World) :
    (Instr.sliceBounds b len cap vl vh none).run P w = .ok (l, h, cap) w := by
  unfold Instr.sliceBounds
  rcases hv with ⟨rfl, rfl⟩ | ⟨k, rfl⟩ <;> rcases hl with ⟨rfl, rfl⟩ | ⟨k', rfl⟩ <;>
    simp only [Sem.run_bind, Sem.run_pure, Result.andThen_ok, sliceBound_run _ h1, sliceBound_run _ h2, Option.isSome_none, Bool.false_eq_true, if_false]

theorem sliceX_ok {t : TypeId} {x : SV} {vx : Value} {lo hi : Option SV} {vl vh : Option Value} (hh : HeapDen U r g L c.h w) (hp : PcOk U r c.pc) (hx : x.den U r g L vx) (hlo : OptDen U r g L lo vl) (hhi : OptDen U r g L hi vh)
    (h : (sliceX P c t x lo hi).sat U (Post U L r g c w K) r) : VOk P (Instr.sliceAt t vx vl vh none) w K := by
  unfold sliceX at h
  split at h
  · rename_i e id off sz len cap hu
    simp only [SV.den] at hx
    obtain ⟨hl, h0, cp, rfl, h3, h4, h5⟩ := hx
    simp only [toI_i] at h0 h3 ⊢
    split at h
    · rename_i n l hb hs hlit hlit'
      have k1 := litNat_ok hlit hlo
      have k2 := litNat_ok hlit' hhi
      have go : ∀ {off' : Nat} {cap' : Option E}, l ≤ hb → hb ≤ cp → sz = n → off' = (if cp = l then off else off + l * n) → (∀ e, cap' = some e → cp - l = (e.ev U r).toI.toNat) →
          Post U L r g c w K r (.sl id off' n (.i (hb - l : Nat)) cap', { c with pc := c.pc }) → VOk P (Instr.sliceAt t (.slice (some ⟨g.a id, off, none⟩) len.toNat cp) vl vh none) w K := by
        intro off' cap' g1 g2 g3 g4 g5 hpost
        refine ⟨.slice (some ⟨g.a id, off', none⟩) (hb - l) (cp - l), w, ?_, Post.same hpost hh hp (Same.refl w) ?_⟩
        · unfold Instr.sliceAt
          simp only [Sem.run_bind, run_und hu, Result.andThen_ok]
          unfold Instr.slice
          simp only [Sem.run_bind, run_und hu, Result.andThen_ok, sliceBounds_run k1 k2 g1 g2, run_sizeOf_of hs, Sem.run_pure, Option.map_some, add_none, g4]
          split <;> rfl
        · simp only [SV.den]
          refine ⟨hl, ?_, cp - l, ?_, ?_, ?_, g5⟩
          · show (0 : Int) ≤ ((hb - l : Nat) : Int); omega
          · show _ = Value.slice _ (((hb - l : Nat) : Int)).toNat _; simp
          · show (((hb - l : Nat) : Int)).toNat ≤ cp - l; omega
          · subst g3
            have : cp * sz = l * sz + (cp - l) * sz := by rw [← Nat.add_mul]; congr 1; omega
            rw [g4]
            split
            · rename_i hcl; rw [hcl, Nat.sub_self, Nat.zero_mul]; omega
            · omega
      split at h
      · rename_i cpl
        have hcp : cp = cpl.toNat := h5 _ rfl
        split at h
        · rename_i hc
          refine go hc.2.1 (by omega) hc.1 (by rw [hcp]) ?_ h
          intro e he; cases he; show cp - l = (((cpl.toNat - l : Nat) : Int)).toNat; omega
        · exact h.elim
      · split at h
        · rename_i hc
          refine go hc.2.1 (by omega) hc.1 ?_ (by intro e he; cases he) h
          split
          · rename_i hcl
            rcases hc.2.2.2 with h' | h'
            · rw [h']; simp
            · omega
          · rfl
        · exact h.elim
      · exact h.elim
    · exact h.elim
  · rename_i s hu
    simp only [SV.den] at hx
    subst hx
    split at h
    · rename_i l hb hl hhb
      obtain ⟨pc, hp1, h | h⟩ := sat_br hp h
      · obtain ⟨pc', hp2, h' | h'⟩ := sat_br (c := { c with pc := pc }) hp1 h.2
        · obtain ⟨pc'', hp3, h'' | h''⟩ := sat_br (c := { c with pc := pc' }) hp2 h'.2
          · have a0 : 0 ≤ (l.ev U r).toI := by have := h.1; rw [mk2_ev] at this; exact of_decide_eq_true this
            have a1 : (l.ev U r).toI ≤ (hb.ev U r).toI := by have := h'.1; rw [mk2_ev] at this; exact of_decide_eq_true this
            have a2 : (hb.ev U r).toI ≤ (s.ev U r).toS.size := by have := h''.1; rw [mk2_ev, mk1_ev] at this; exact of_decide_eq_true this
            have kl : (vl = none ∧ (l.ev U r).toI.toNat = 0) ∨ ∃ k, vl = some (.int k ((l.ev U r).toI.toNat : Nat)) := by
              cases lo with
              | none => cases vl with
                | none => cases hl; exact .inl ⟨rfl, rfl⟩
                | some v => exact hlo.elim
              | some o => cases vl with
                | none => exact hlo.elim
                | some v =>
                  cases o <;> simp at hl
                  subst hl
                  have hlo : v = _ := hlo
                  exact .inr ⟨_, by rw [Int.toNat_of_nonneg a0]; exact congrArg some hlo⟩
            have kh : (vh = none ∧ (hb.ev U r).toI.toNat = (s.ev U r).toS.size) ∨ ∃ k, vh = some (.int k ((hb.ev U r).toI.toNat : Nat)) := by
              cases hi with
              | none => cases vh with
                | none => cases hhb; left; refine ⟨rfl, ?_⟩; rw [mk1_ev]; show (((s.ev U r).toS.size : Nat) : Int).toNat = _; omega
                | some v => exact hhi.elim
              | some o => cases vh with
                | none => exact hhi.elim
                | some v =>
                  cases o <;> simp at hhb
                  subst hhb
                  have hhi : v = _ := hhi
                  exact .inr ⟨_, by rw [Int.toNat_of_nonneg (by omega)]; exact congrArg some hhi⟩
            refine ⟨.string ((s.ev U r).toS.extract (l.ev U r).toI.toNat (hb.ev U r).toI.toNat), w, ?_, Post.same h''.2 hh hp3 (Same.refl w) rfl⟩
            unfold Instr.sliceAt
            simp only [Sem.run_bind, run_und hu, Result.andThen_ok]
            unfold Instr.slice
            simp only [Sem.run_bind, run_und hu, Result.andThen_ok, Option.isSome_none, Bool.false_eq_true, if_false, Sem.run_pure]
            rw [sliceBounds_run kl kh (by omega) (by omega)]
            rfl
          · exact h''.2.elim
        · exact h'.2.elim
      · exact h.2.elim
    · exact h.elim
  · exact h.elim
end
end Go.Sx
