/-
  Sx, part Zl: a contract that takes a function as one word.
-/
import Derived.Test.YtdgenclminhcdaaSxZk
namespace Go.Sx
open Ieee
open E (mk1 mk2 mkIte mk1_ev mk2_ev mkIte_ev)

def idGo : Nat → Nat → List (Nat × E)
  | _, 0 => []
  | i, n + 1 => (i, .v i) :: idGo (i + 1) n

theorem idGo_look : ∀ {n i k : Nat} {e : E}, lkM k (idGo i n) = some e → e = .v k ∧ k < i + n := by
  intro n
  induction n with
  | zero => intro i k e h; cases h
  | succ n ih =>
    intro i k e h
    unfold idGo lkM at h
    cases hb : Nat.beq i k with
    | true =>
      rw [hb] at h
      simp only [cond_true, Option.some.injEq] at h
      have := Nat.eq_of_beq_eq_true hb
      subst this
      exact ⟨h.symm, by omega⟩
    | false =>
      rw [hb] at h
      have := ih h
      exact ⟨this.1, by omega⟩

/-- At each leaf of the first tree the second answers the same. -/
def opLeaf (ps : List Pt) (rp : Rp) (T2 : Tree SV) (m : Nat) (K : Ks) (s : SV) : Bool :=
  match rp.out s with
  | some xs => (xs.all fun x => x.under m) && ((xs.length == ptCount rp.pts) && walk2 rp.out xs m K (idGo 0 (ptCount ps)) T2)
  | none => false

def opOk (ps : List Pt) (rp : Rp) (T1 T2 : Tree SV) : Bool :=
  lowWf (ptWf 0 ps) && (Nat.ble (ptCount ps) 1000 && (okT rp.out 1000 T1 && (okT rp.out 1000 T2 && allI (opLeaf ps rp T2) 1000 ⟨[], ptWf 0 ps, [], [], []⟩ T1)))

theorem ks0 {U : Nat → D → D} {r : Nat → D} {g : Gh} {L : Nat → Prop} {ps : List Pt} {vs : List Value} (hl : lowWf (ptWf 0 ps) = true) (hd : SV.denL U r g L (ptGo 0 ps) vs) : KsOk U r 1000 ⟨[], ptWf 0 ps, [], [], []⟩ :=
  ⟨fun _ h => (by cases h), fun _ h => (by cases h), ptWf_ok hd, fun p hp => (by
    unfold lowWf at hl
    rw [List.all_eq_true] at hl
    have := hl p hp
    rwa [Nat.blt_eq] at this), TOk.nil, TUnder.nil, fun _ h => (by cases h), fun _ h => (by cases h), TOk.nil, TUnder.nil⟩

section
variable {U : Nat → D → D} {P : Program} {cf : FuncId → List SV → Cx → Tree (SV × Cx)}

theorem out_den {g g' : Gh} {L L' : Nat → Prop} {r ρ : Nat → D} {rp : Rp} {s : SV} {xs es : List E} {v : Value} (ho : rp.out s = some xs) (hd : s.den U ρ g L v) (hl : xs.length = ptCount rp.pts) (he : es.map (·.ev U r) = xs.map (·.ev U ρ)) :
    (rp.back es).den U r g' L' v := by
  have hlen : es.length = xs.length := by simpa using congrArg List.length he
  have hget : ∀ j (e : E), es[j]? = some e → e.ev U r = valOf (xs.map (·.ev U ρ)) 0 (0 + j) := by
    intro j e h
    have h1 : (es.map (·.ev U r))[j]? = some (e.ev U r) := by rw [List.getElem?_map, h]; rfl
    rw [he] at h1
    simp only [valOf, Nat.zero_add, Nat.sub_zero, List.getD_eq_getElem?_getD, h1, Option.getD_some]
  have hx : ∀ (j : Nat) (e : E), xs[j]? = some e → valOf (xs.map (·.ev U ρ)) 0 (0 + j) = e.ev U ρ := by
    intro j e h
    simp only [valOf, Nat.zero_add, Nat.sub_zero, List.getD_eq_getElem?_getD, List.getElem?_map, h, Option.map_some, Option.getD_some]
  cases rp with
  | one p =>
    have hd' : SV.denL U ρ g L [s] [v] := by simp only [SV.denL]; exact ⟨hd, trivial⟩
    have h1 := ptE_den (g' := g) (L' := L) (r' := valOf (xs.map (·.ev U ρ)) 0) ho hx hd'
    have h2 := ptMk_den (U' := U) (g' := g') (L' := L') (r := r) (es := es) h1 (by simp only [Rp.pts] at hl; omega) hget
    show ((ptMk [p] es).headD .any).den U r g' L' v
    generalize ptMk [p] es = q at h2
    match q, h2 with
    | [x], h2 => simp only [SV.denL] at h2; exact h2.1
    | [], h2 => simp [SV.denL] at h2
    | _ :: _ :: _, h2 => simp [SV.denL] at h2
  | tup ps =>
    cases s with
    | tup vs =>
      simp only [SV.den] at hd
      obtain ⟨ys, rfl, hd⟩ := hd
      have h1 := ptE_den (g' := g) (L' := L) (r' := valOf (xs.map (·.ev U ρ)) 0) ho hx hd
      have h2 := ptMk_den (U' := U) (g' := g') (L' := L') (r := r) (es := es) h1 (by simp only [Rp.pts] at hl; omega) hget
      simp only [Rp.back, SV.den]
      exact ⟨ys, rfl, h2⟩
    | _ => simp [Rp.out] at ho

/-- A CALL AS ONE WORD. -/
theorem op_entry (hcf : CallsOk U P cf) (f : FuncId) (ps : List Pt) (rp : Rp) (n : Nat) (hu : SV.underL 1000 (ptGo 0 ps) = true) {T2 : Tree SV} (h2 : opOk ps rp (resT (cf f (ptGo 0 ps) cx0)) T2 = true)
    (hU : ∀ d, U n d = opVal T2 (ptCount ps) rp d) : EntryOk U P f (opRun n ps rp) := by
  intro args c L r g w vs K hh hp hd h
  unfold opRun at h
  split at h
  · rename_i es hes
    unfold opOk at h2
    simp only [Bool.and_eq_true] at h2
    obtain ⟨q1, q2, q3, q4, q5⟩ := h2
    have hq2 := Nat.le_of_ble_eq_true q2
    have hden : SV.denL U (valOf (es.map (·.ev U r)) 0) g (fun _ => False) (ptGo 0 ps) vs.toList := by
      refine ptE_den (r := r) hes (fun j e he => ?_) hd
      simp only [valOf, Nat.zero_add, Nat.sub_zero, List.getD_eq_getElem?_getD, List.getElem?_map, he, Option.map_some, Option.getD_some]
    have hcount : es.length = ptCount ps := by
      have : ∀ {ps : List Pt} {args : List SV} {es : List E} {vs : List Value}, ptE ps args = some es → SV.denL U r g L args vs → es.length = ptCount ps := by
        intro ps
        induction ps with
        | nil => intro args es vs h _; cases args with
          | nil => simp only [ptE, Option.some.injEq] at h; subst h; rfl
          | cons a b => simp [ptE] at h
        | cons p ps ih =>
          intro args es vs h hd
          cases args with
          | nil => cases p <;> simp [ptE] at h
          | cons a args =>
            cases vs with
            | nil => simp [SV.denL] at hd
            | cons v vs =>
              simp only [SV.denL] at hd
              cases p with
              | one k =>
                simp only [ptE] at h
                split at h
                · rename_i e es' h1 h2
                  cases h
                  simp [ptCount, ih h2 hd.2]
                · cases h
              | ag ks =>
                cases a with
                | agg cs =>
                  simp only [ptE] at h
                  split at h
                  · rename_i e1 e2 h1 h2
                    cases h
                    have hd1 := hd.1
                    simp only [SV.den] at hd1
                    obtain ⟨xs, _, hc⟩ := hd1
                    have := (skL_den (r' := valOf (e1.map (·.ev U r)) 0) (g' := g) (L' := L) (i := 0) h1 (fun j e he => by
                      simp only [valOf, Nat.zero_add, Nat.sub_zero, List.getD_eq_getElem?_getD, List.getElem?_map, he, Option.map_some, Option.getD_some]) hc).1
                    simp [ptCount, ih h2 hd.2, this]
                  · cases h
                | _ => simp [ptE] at h
      exact this hes hd
    obtain ⟨s, r', m', K', e1, e2, e3, e4, e5⟩ := allI_ev q5 (ks0 q1 hden)
    unfold opLeaf at e4
    split at e4
    · rename_i xs hxs
      simp only [Bool.and_eq_true] at e4
      obtain ⟨x1, x2, x3⟩ := e4
      rw [List.all_eq_true] at x1
      have hf : Fills U r' (valOf (es.map (·.ev U r)) 0) (idGo 0 (ptCount ps)) := by
        intro k e hk
        obtain ⟨rfl, hlt⟩ := idGo_look hk
        show _ = r' k
        rw [e5 k (by omega)]
      have hσ : ∀ p ∈ idGo 0 (ptCount ps), p.2.under m' = true := by
        have : ∀ n i, i + n ≤ 1000 → ∀ p ∈ idGo i n, p.2.under m' = true := by
          intro n
          induction n with
          | zero => intro i _ p hp; cases hp
          | succ n ih =>
            intro i hi p hp
            rcases List.mem_cons.1 hp with rfl | hp
            · simp [E.under]; omega
            · exact ih (i + 1) (by omega) p hp
        exact this _ 0 (by omega)
      obtain ⟨y, r2', ys, y1, y2, y3⟩ := walk2_ok x3 e3 hf hσ x1
      refine closed_lets hcf hu hden (evT_lets q3 e1 fun g' L' v w' hfr hv => ?_)
      refine h g v w' (ext_frame hh rfl (Nat.le_refl _) hp hfr) ?_
      refine out_den (U := U) hxs hv (by simpa using x2) ?_
      rw [projs_ev]
      have hword : (E.app n (tupE es)).ev U r = tupD (xs.map (·.ev U r')) := by
        show U n ((tupE es).ev U r) = _
        rw [hU, tupE_ev]
        unfold opVal
        rw [show unT (ptCount ps) (tupD (es.map (·.ev U r))) = es.map (·.ev U r) by
          have := unT_tup (l := es.map (·.ev U r)); rwa [List.length_map, hcount] at this]
        rw [evT_noApp (U := fun _ d => d) (U' := U) q4, y1]
        dsimp only
        rw [y2]
        dsimp only
        rw [← y3]
        congr 1
        exact List.map_congr_left fun e he => E.ev_noApp (evT_words q4 y1 y2 e he)
      rw [hword]
      have hx2 : xs.length = ptCount rp.pts := by simpa using x2
      have := unT_tup (l := xs.map (·.ev U r'))
      rwa [List.length_map, hx2] at this
    · cases e4
  · exact h.elim
end
end Go.Sx
