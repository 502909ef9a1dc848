/-
  Sx, part Zm: texts put together: the library's join, by the contract that its text has.
-/
import Derived.Test.YtcloacigldklkaaDoorSxGg
import Derived.Lib.Join
import Derived.Below
namespace Go.Sx
open Go.RowKit (Below)
open E (mk1 mk2 mkIte mk1_ev mk2_ev mkIte_ev lenE lenE_ev)

def strCells : List SV → Option (List E)
  | [] => some []
  | .str e :: l => (strCells l).map (e :: ·)
  | .con (.string s) :: l => (strCells l).map (.s s.data.toList :: ·)
  | _ => none

def joinsE (s : E) : List E → E
  | [] => .s []
  | [e] => e
  | e :: l => mk2 .scat (mk2 .scat e s) (joinsE s l)

def joinRun : List SV → Cx → Tree (SV × Cx)
  | [.sl id off sz (.i n) _, .str s], c =>
    match c.h[id]? with
    | some (some b) =>
      if 0 ≤ n ∧ n ≤ 1048576 ∧ off + n.toNat ≤ b.cs.length ∧ sz = 1 then
        match strCells (cut b.cs off n.toNat) with
        | some es => match lenE (joinsE s es) with
          | some k => if k ≤ 140737488355328 then .ret (.str (joinsE s es), c) else .bad
          | none => .bad
        | none => .bad
      else .bad
    | _ => .bad
  | _, _ => .bad

section
variable {U : Nat → D → D} {L : Nat → Prop} {r : Nat → D} {g : Gh} {c : Cx} {w w' : World} {P : Program} {K : Value → World → Prop}

theorem strCells_ok : ∀ {cs : List SV} {es : List E} {vs : List Value}, strCells cs = some es → SV.denL U r g L cs vs → vs = es.map fun e => .string (e.ev U r).toS := by
  intro cs
  induction cs with
  | nil =>
    intro es vs h hd
    simp only [strCells, Option.some.injEq] at h
    subst h
    cases vs with
    | nil => rfl
    | cons a b => simp [SV.denL] at hd
  | cons x cs ih =>
    intro es vs h hd
    cases vs with
    | nil => simp [SV.denL] at hd
    | cons v vs =>
      simp only [SV.denL] at hd
      cases x with
      | str e =>
        simp only [strCells, Option.map_eq_some_iff] at h
        obtain ⟨es', h1, rfl⟩ := h
        simp only [List.map_cons]
        rw [ih h1 hd.2]
        congr 1
        simpa only [SV.den] using hd.1
      | con u =>
        cases u with
        | string s =>
          simp only [strCells, Option.map_eq_some_iff] at h
          obtain ⟨es', h1, rfl⟩ := h
          simp only [List.map_cons]
          rw [ih h1 hd.2]
          congr 1
          have := hd.1
          simp only [SV.den] at this
          rw [this]
          simp [E.ev, D.toS]
        | _ => simp [strCells] at h
      | _ => simp [strCells] at h

theorem joinsE_ev (s : E) : ∀ {l : List E}, ((joinsE s l).ev U r).toS.data.toList = Lib.join (l.map fun e => (e.ev U r).toS.data.toList) (s.ev U r).toS.data.toList := by
  intro l
  induction l with
  | nil => rfl
  | cons e l ih =>
    cases l with
    | nil => simp only [joinsE, List.map_cons, List.map_nil]; rw [Lib.join_one]
    | cons e' l =>
      simp only [joinsE, mk2_ev, O2.ev, D.toS_s, List.map_cons] at ih ⊢
      rw [ByteArray.data_append, Array.toList_append, ByteArray.data_append, Array.toList_append, ih, Lib.join_cons, Lib.join_cons]
      simp [Lib.joinTail, List.append_assoc]

/-- What the library says of its join. -/
def JoinSays (P : Program) (f : FuncId) : Prop := ∀ (bk o c : Nat) (xs : List ByteArray) (sep : ByteArray) (w : World), (∀ (j : Nat) x, xs[j]? = some x → w.cell? ⟨bk, o + j, none⟩ = some (.string x)) →
  bk < w.heap.size → xs.length ≤ 140737488355328 → xs.length ≤ c → (Lib.join (xs.map (·.data.toList)) sep.data.toList).length ≤ 140737488355328 →
  Calls P f #[.slice (some ⟨bk, o, none⟩) xs.length c, .string sep] w fun e w' => e = .returned (.string ⟨(Lib.join (xs.map (·.data.toList)) sep.data.toList).toArray⟩) ∧ Below w.heap.size w w'

theorem join_entry {f : FuncId} {fn : Func} {body : Code} (hn : NamesOk P) (hf : P.funcs[f]? = some fn) (hb : fn.body = some body) (hJ : JoinSays P f) : EntryOk U P f joinRun := by
  intro args c L r g w vs K hh hp hd h
  unfold joinRun at h
  split at h
  · rename_i id off sz n cap s
    split at h
    · rename_i b hbk
      split at h
      · rename_i hc
        obtain ⟨h0, hn1, hle, hsz⟩ := hc
        split at h
        · rename_i es hes
          split at h
          · rename_i k hk
            split at h
            · rename_i hkl
              obtain ⟨v1, v2, hvs⟩ : ∃ v1 v2, vs = #[v1, v2] := by
                have hl := SV.denL_length U r g L hd
                simp only [List.length_cons, List.length_nil, Array.length_toList] at hl
                match vs, hl with
                | ⟨[a, b]⟩, _ => exact ⟨a, b, rfl⟩
              subst hvs
              simp only [SV.denL, SV.den, and_true] at hd
              obtain ⟨⟨hl, _, cp, rfl, h3, h4, _⟩, rfl⟩ := hd
              rw [toI_i] at *
              obtain ⟨xs, t', fz, e1, e2, e3, e4, e5⟩ := hh.blk id b hl hbk
              have hcut : SV.denL U r g L (cut b.cs off n.toNat) (xs.extract off (off + n.toNat)).toList := by
                refine SV.denL_of U r g L (by unfold cut; simp; omega) fun i s v h1 h2 => ?_
                unfold cut at h1
                rw [List.getElem?_take] at h1
                split at h1
                · rename_i hi
                  rw [List.getElem?_drop] at h1
                  obtain ⟨v', hv', hd'⟩ := e5 _ _ h1
                  have : v = v' := by
                    simp only [Array.toList_extract, List.extract_eq_take_drop, List.getElem?_take, List.getElem?_drop] at h2
                    rw [if_pos (by omega), Array.getElem?_toList, hv'] at h2
                    exact (Option.some.inj h2).symm
                  subst this; exact hd'
                · cases h1
              have hstr := strCells_ok hes hcut
              have hlen : es.length = n.toNat := by
                have := congrArg List.length hstr
                simp at this; omega
              have hJ' := hJ (g.a id) off cp (es.map fun e => (e.ev U r).toS) (s.ev U r).toS w (fun j x hx => by
                rw [cell_of e1]
                rw [List.getElem?_map] at hx
                cases he : es[j]? with
                | none => rw [he] at hx; cases hx
                | some e =>
                  rw [he] at hx
                  simp only [Option.map_some, Option.some.injEq] at hx
                  have hj : j < n.toNat := by rw [← hlen]; exact (List.getElem?_eq_some_iff.1 he).1
                  have h6 : (xs.extract off (off + n.toNat)).toList[j]? = some (.string x) := by
                    rw [hstr, List.getElem?_map, he, ← hx]; rfl
                  simp only [Array.toList_extract, List.extract_eq_take_drop, List.getElem?_take, List.getElem?_drop] at h6
                  rw [if_pos (by omega), Array.getElem?_toList] at h6
                  exact h6) (hh.lt id hl) (by simp; omega) (by simp; omega) (by
                have h7 := lenE_ev U r hk
                have h8 := joinsE_ev (U := U) (r := r) s (l := es)
                rw [List.map_map]
                have h9 := congrArg List.length h8
                rw [show (fun x : ByteArray => x.data.toList) ∘ (fun e : E => (e.ev U r).toS) = fun e : E => (e.ev U r).toS.data.toList from rfl, ← h9]
                have : ((joinsE s es).ev U r).toS.data.toList.length = k := by rw [← h7]; exact Array.length_toList
                omega)
              rw [List.length_map, hlen] at hJ'
              refine callGoal_of hn hf hb (hJ'.mono fun e w' ⟨he, hB⟩ => ⟨_, he, ?_⟩)
              refine h g _ w' (ext_frame hh rfl (Nat.le_refl _) hp ⟨hB.os, hB.tape, hB.output, hB.size, fun k hk _ => hB.block k hk⟩) ?_
              simp only [SV.den]
              congr 1
              apply ByteArray.ext
              rw [List.map_map]
              have h8 := joinsE_ev (U := U) (r := r) s (l := es)
              rw [show (fun x : ByteArray => x.data.toList) ∘ (fun e : E => (e.ev U r).toS) = fun e : E => (e.ev U r).toS.data.toList from rfl, ← h8]
            · exact h.elim
          · exact h.elim
        · exact h.elim
      · exact h.elim
    · exact h.elim
  · exact h.elim
end
end Go.Sx
