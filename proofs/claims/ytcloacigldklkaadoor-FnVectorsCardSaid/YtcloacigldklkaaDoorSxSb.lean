/-
  Sx, part Sb: a law's arguments where they hold slices.
-/
import Derived.Test.YtcloacigldklkaaDoorSxGf
import Derived.Test.YtcloacigldklkaaDoorSxGd
import Derived.ChangeArms
namespace Go.Sx
open E (mk1 mk2 mkIte mk1_ev mk2_ev mkIte_ev)

/-- What a cell of an argument holds: a plain value; a slice of plain rows. -/
inductive AK where
  | sc (k : Sk)
  | row (ks : List Sk)

def scalars : List AK → Option (List Sk)
  | [] => some []
  | .sc k :: l => (scalars l).map (k :: ·)
  | _ => none

def flatF (P : Program) (r : TypeId → Option (List AK)) : Nat → List Field → Option (List AK)
  | _, [] => some []
  | off, f :: l => match r f.type, flatF P r (off + P.cellsOf f.type) l with
    | some a, some b => if f.offset = off ∧ P.cellsOf f.type = a.length then some (a ++ b) else none
    | _, _ => none

def flatT (P : Program) : Nat → TypeId → Option (List AK)
  | 0, _ => none
  | d + 1, t => match P.underlying t with
    | some (.struct fs) => (match flatF P (flatT P d) 0 fs.toList with
      | some aks => if P.cellsOf t = aks.length then some aks else none
      | none => none)
    | some (.slice e) => (match flatT P d e with
      | some aks => (match scalars aks with
        | some ks => if P.cellsOf e = ks.length ∧ 0 < ks.length then some [.row ks] else none
        | none => none)
      | none => none)
    | _ => (skOf P t).map fun k => [.sc k]

def AK.holds (w : World) (ak : AK) (v : Value) : Prop :=
  match ak with
  | .sc k => ∃ d : D, k.den d v
  | .row ks => 0 < ks.length ∧ (v = .slice none 0 0 ∨ ∃ a len cap, v = .slice (some a) len cap ∧ (len ≤ cap ∧ cap ≤ 9223372036854775807) ∧ ∀ i, i < cap → ∀ (f : Nat) (k : Sk), ks[f]? = some k → ∃ u, w.cell? (a.add (i * ks.length + f)) = some u ∧ ∃ d : D, k.den d u)

theorem scalars_get : ∀ {l : List AK} {ks : List Sk}, scalars l = some ks → l.length = ks.length ∧ ∀ (j : Nat) (k : Sk), ks[j]? = some k → l[j]? = some (.sc k) := by
  intro l
  induction l with
  | nil => intro ks h; simp [scalars] at h; subst h; simp
  | cons a l ih =>
    intro ks h
    cases a with
    | row ks' => simp [scalars] at h
    | sc k =>
      simp only [scalars, Option.map_eq_some_iff] at h
      obtain ⟨m, hm, rfl⟩ := h
      obtain ⟨h1, h2⟩ := ih hm
      refine ⟨by simp [h1], fun j k' hk => ?_⟩
      cases j with
      | zero => simp at hk; subst hk; rfl
      | succ j => simpa using h2 j k' (by simpa using hk)

section
variable {H : Type} {enc : TypeId × Value → H} {P : Program} {w : World}

theorem trod_float {t : TypeId} {k : FloatKind} {n : Nat} {cs : List Value} {x : DataW H × List MemPlace} {held : Bool} {sp : Nat → Bool} (ht : P.underlying t = some (.float k)) (h : DataW.trod enc P w 0 sp held n t cs = some x) :
    ∃ b, cs = [.float k b] ∧ (Lit.float k b).wf = true := by
  cases n with
  | zero => simp [DataW.trod] at h
  | succ n =>
    unfold DataW.trod at h
    rw [ht] at h
    split at h <;> simp_all

theorem trod_sk {t : TypeId} {k : Sk} {n : Nat} {cs : List Value} {x : DataW H × List MemPlace} {held : Bool} {sp : Nat → Bool} (hk : skOf P t = some k) (h : DataW.trod enc P w 0 sp held n t cs = some x) : ∃ v, cs = [v] ∧ ∃ d : D, k.den d v := by
  unfold skOf at hk
  split at hk
  · rename_i hu
    cases hk
    obtain ⟨b, h1, _⟩ := DataW.trod_bool hu h
    exact ⟨_, h1, .b b, rfl⟩
  · rename_i hu
    cases hk
    obtain ⟨m, h1, _, h2⟩ := DataW.trod_int hu h
    have h3 : IntKind.u8.wrap m = m := by
      simp [Lit.wf] at h2
      exact wrap_u8_in (by simpa using h2.1) (by simpa using h2.2)
    exact ⟨_, h1, .i m, show Value.int .u8 m = Value.int .u8 (IntKind.u8.wrap m) by rw [h3]⟩
  · rename_i q _ hu
    cases hk
    obtain ⟨m, h1, _⟩ := DataW.trod_int hu h
    exact ⟨_, h1, .i m, rfl⟩
  · rename_i q hu
    cases hk
    obtain ⟨b, h1, h2⟩ := trod_float hu h
    refine ⟨_, h1, .f (cn q b), b, rfl, ?_, rfl⟩
    cases q
    · have : b < 4294967296 := by simpa [Lit.wf] using h2
      exact this
    · have : b < 18446744073709551616 := by simpa [Lit.wf] using h2
      exact this
  · rename_i hu
    cases hk
    obtain ⟨b, h1, _⟩ := DataW.trod_string hu h
    exact ⟨_, h1, .s b, rfl⟩
  · cases hk

/-- All cells hold what their kinds say. -/
def HoldsAll (w : World) (aks : List AK) (cs : List Value) : Prop := cs.length = aks.length ∧ ∀ (j : Nat) (ak : AK) (v : Value), aks[j]? = some ak → cs[j]? = some v → ak.holds w v

theorem flat_ok {held : Bool} : ∀ (d : Nat),
    (∀ (n : Nat) (t : TypeId) (cs : List Value) (x : DataW H × List MemPlace) (aks : List AK), flatT P d t = some aks → DataW.trod enc P w 0 (fun _ => true) held n t cs = some x → HoldsAll w aks cs) := by
  intro d
  induction d with
  | zero => intro n t cs x aks h; simp [flatT] at h
  | succ d ih =>
    intro n t cs x aks h hx
    unfold flatT at h
    split at h
    · rename_i fs hu
      split at h
      · rename_i aks' hf
        split at h
        · rename_i hc
          cases h
          obtain ⟨xs, m, rfl, _, hl, hxs, hfs⟩ := DataW.trod_struct hu hx
          refine ⟨by rw [hl, hc], ?_⟩
          -- fields, one after another
          have go : ∀ (l : List Field) (off : Nat) (aks : List AK), flatF P (flatT P d) off l = some aks → off + aks.length ≤ cs.length → (∀ f ∈ l, ∃ y, DataW.trod enc P w 0 (fun _ => true) held m f.type ((cs.drop f.offset).take (P.cellsOf f.type)) = some y) →
              ∀ (j : Nat) (ak : AK) (v : Value), aks[j]? = some ak → cs[off + j]? = some v → ak.holds w v := by
            intro l
            induction l with
            | nil => intro off aks h; simp only [flatF, Option.some.injEq] at h; subst h; intro _ _ j ak v hj; simp at hj
            | cons f l ihl =>
              intro off aks h hle hy j ak v hj hv
              unfold flatF at h
              split at h
              · rename_i a b ha hb
                split at h
                · rename_i hoff
                  cases h
                  obtain ⟨y, hy1⟩ := hy f (by simp)
                  obtain ⟨k1, k2⟩ := ih m f.type _ y a ha hy1
                  by_cases hja : j < a.length
                  · rw [List.getElem?_append_left hja] at hj
                    refine k2 j ak v hj ?_
                    rw [List.getElem?_take, if_pos (by rw [hoff.2]; exact hja), List.getElem?_drop, hoff.1]; exact hv
                  · rw [List.getElem?_append_right (by omega)] at hj
                    refine ihl _ b hb (by simp at hle; rw [hoff.2]; omega) (fun f' hf' => hy f' (by simp [hf'])) (j - a.length) ak v hj ?_
                    rw [← hv, hoff.2]; congr 1; omega
                · cases h
              · cases h
          have hlen : fs.toList.length = xs.length := by simpa using hxs.symm
          have hall : ∀ f ∈ fs.toList, ∃ y, DataW.trod enc P w 0 (fun _ => true) held m f.type ((cs.drop f.offset).take (P.cellsOf f.type)) = some y := by
            intro f hf
            obtain ⟨i, hi, rfl⟩ := List.getElem_of_mem hf
            have := hfs i fs.toList[i] (by simp)
            exact ⟨xs[i]'(by omega), by rw [this]; exact List.getElem?_eq_getElem (by omega)⟩
          intro j ak v hj hv
          exact go fs.toList 0 _ hf (by rw [hl, hc]; omega) hall j ak v hj (by rw [Nat.zero_add]; exact hv)
        · cases h
      · cases h
    · rename_i e hu
      split at h
      · rename_i aks' he
        split at h
        · rename_i ks hks
          split at h
          · rename_i hc
            cases h
            rcases DataW.trod_slice hu hx with ⟨rfl, _⟩ | ⟨a, len, cap, elems, rest, m, _, rfl, _, _, hle, hmax, hel, hels, hsp, _⟩
            · refine ⟨rfl, fun j ak v hj hv => ?_⟩
              cases j with
              | zero => simp at hj hv; subst hj hv; exact ⟨hc.2, .inl rfl⟩
              | succ j => simp at hj
            · refine ⟨rfl, fun j ak v hj hv => ?_⟩
              cases j with
              | succ j => simp at hj
              | zero =>
                simp at hj hv
                subst hj hv
                refine ⟨hc.2, .inr ⟨a, len, cap, rfl, ⟨hle, by unfold maxLen at hmax; omega⟩, fun i hi f k hk => ?_⟩⟩
                have each : ∃ y, (w.cells? 0 (a.add (i * P.cellsOf e)) (P.cellsOf e)).bind (DataW.trod enc P w 0 (fun _ => true) held m e) = some y := by
                  by_cases hil : i < len
                  · have := hels i hil
                    exact ⟨elems[i]'(by omega), by rw [this]; exact List.getElem?_eq_getElem (by omega)⟩
                  · obtain ⟨h1, h2⟩ := hsp rfl
                    have := h2 (i - len) (by omega)
                    rw [show len + (i - len) = i by omega] at this
                    exact ⟨rest[i - len]'(by omega), by rw [this]; exact List.getElem?_eq_getElem (by omega)⟩
                obtain ⟨y, hy⟩ := each
                rw [Option.bind_eq_some_iff] at hy
                obtain ⟨cs', h1, h2⟩ := hy
                obtain ⟨_, h3, h4⟩ := World.cells?_some h1
                obtain ⟨k1, k2⟩ := ih m e cs' y aks' he h2
                obtain ⟨s1, s2⟩ := scalars_get hks
                have hf : f < ks.length := (List.getElem?_eq_some_iff.1 hk).1
                have hcf : cs'[f]? = some (cs'[f]'(by omega)) := List.getElem?_eq_getElem (by omega)
                refine ⟨_, ?_, k2 f (.sc k) _ (s2 f k hk) hcf⟩
                have := h4 f (by omega)
                rw [Addr.add_add, hcf, hc.1] at this
                exact this
          · cases h
        · cases h
      · cases h
    · simp only [Option.map_eq_some_iff] at h
      obtain ⟨k, hk, rfl⟩ := h
      obtain ⟨v, rfl, hd⟩ := trod_sk hk hx
      refine ⟨rfl, fun j ak v' hj hv => ?_⟩
      cases j with
      | zero => simp at hj hv; subst hj hv; exact hd
      | succ j => simp at hj
end

/-! ### Their values, and the memory they lie in -/

def leafGo : Nat → Nat → List AK → List SV
  | _, _, [] => []
  | i, b, .sc k :: l => skSV k (.v i) :: leafGo (i + 1) b l
  | i, b, .row ks :: l => .slo b ks.length (mk1 .llen (.v i)) :: leafGo (i + 1) (b + 1) l

def leafBs : Nat → List AK → List SB
  | _, [] => []
  | i, .sc _ :: l => leafBs (i + 1) l
  | i, .row ks :: l => ⟨false, [], some (ks, .v i)⟩ :: leafBs (i + 1) l

def rowsN : List AK → Nat
  | [] => 0
  | .sc _ :: l => rowsN l
  | .row _ :: l => rowsN l + 1

theorem leafBs_length : ∀ (l : List AK) (i : Nat), (leafBs i l).length = rowsN l := by
  intro l
  induction l with
  | nil => intro i; rfl
  | cons a l ih => intro i; cases a <;> simp [leafBs, rowsN, ih]

section
variable {U : Nat → D → D} {w : World}

/-- What stands at the variables and blocks of some cells. -/
def LeafDen (U : Nat → D → D) (w : World) (aks : List AK) (cs : List Value) (ds : List D) (gs : List (Nat × Nat × Nat)) (ls : List Prop) : Prop :=
  ds.length = aks.length ∧ gs.length = rowsN aks ∧ ls.length = rowsN aks ∧ (∀ (j : Nat) (ks : List Sk) (d : D), aks[j]? = some (.row ks) → ds[j]? = some d → d.toL.length ≤ 9223372036854775807) ∧
    ∀ (r : Nat → D) (g : Gh) (L : Nat → Prop) (i b : Nat), (∀ (j : Nat) (d : D), ds[j]? = some d → r (i + j) = d) → (∀ (j : Nat) (x : Nat × Nat × Nat), gs[j]? = some x → g.a (b + j) = x.1 ∧ g.n (b + j) = x.2.1 ∧ g.o (b + j) = x.2.2) →
      (∀ (j : Nat) (q : Prop), ls[j]? = some q → (L (b + j) ↔ q)) → SV.denL U r g L (leafGo i b aks) cs ∧ ∀ (j : Nat) (s : SB), (leafBs i aks)[j]? = some s → L (b + j) → BlkDen U r g L w s (b + j)

/-- A row in memory. -/
theorem row_there {ks : List Sk} {a : Addr} {len cap : Nat} (hk : 0 < ks.length) (hle : len ≤ cap) (hc : 0 < cap) (h : ∀ i, i < cap → ∀ (f : Nat) (k : Sk), ks[f]? = some k → ∃ u, w.cell? (a.add (i * ks.length + f)) = some u ∧ ∃ d : D, k.den d u) :
    a.spot = none ∧ a.block < w.heap.size ∧ ∃ (xs : Array Value) (t : TypeId) (fz : Nat × Nat) (ds : List D), w.heap[a.block]? = some (.cells xs t fz) ∧ ds.length = len ∧ RowDen ks ds a.off xs ∧ a.off + cap * ks.length ≤ xs.size := by
  obtain ⟨u0, hu0, _⟩ := h 0 hc 0 ks[0] (List.getElem?_eq_getElem hk)
  have h0 : a.add (0 * ks.length + 0) = a := by simp [Addr.add]
  rw [h0] at hu0
  unfold World.cell? at hu0
  split at hu0
  · rename_i xs t fz hb
    split at hu0
    · cases hu0
    · rename_i hs
      have hspot : a.spot = none := by simpa using hs
      have cell : ∀ n, w.cell? (a.add n) = xs[a.off + n]? := by
        intro n
        have ha : a.add n = ⟨a.block, a.off + n, none⟩ := by
          unfold Addr.add
          split
          · rename_i hn; subst hn; cases a; simp at hspot; subst hspot; rfl
          · rfl
        rw [ha, cell_of hb]
      have hlt : a.block < w.heap.size := by
        rcases Nat.lt_or_ge a.block w.heap.size with h' | h'
        · exact h'
        · rw [Array.getElem?_eq_none h'] at hb; cases hb
      have hex : ∀ i f, ∃ d : D, i < cap → ∀ k, ks[f]? = some k → ∃ u, xs[a.off + (i * ks.length + f)]? = some u ∧ k.den d u := by
        intro i f
        by_cases hi : i < cap
        · cases hkf : ks[f]? with
          | none => exact ⟨.b false, fun _ k hk => by cases hk⟩
          | some k =>
            obtain ⟨u, h1, d, h2⟩ := h i hi f k hkf
            rw [cell] at h1
            exact ⟨d, fun _ k' hk' => by cases hk'; exact ⟨u, h1, h2⟩⟩
        · exact ⟨.b false, fun h => absurd h hi⟩
      refine ⟨hspot, hlt, xs, t, fz, (List.range len).map fun i => .l ((List.range ks.length).map fun f => Classical.choose (hex i f)), hb, by simp, ?_, ?_⟩
      · intro i d hd
        rw [List.getElem?_map] at hd
        cases hr : (List.range len)[i]? with
        | none => rw [hr] at hd; cases hd
        | some i' =>
          rw [hr] at hd
          have hi : i < len := by simpa using (List.getElem?_eq_some_iff.1 hr).1
          have : i' = i := by rw [List.getElem?_range hi] at hr; exact (Option.some.inj hr).symm
          subst this
          simp only [Option.map_some, Option.some.injEq] at hd
          subst hd
          refine ⟨⟨_, rfl, by simp⟩, fun f k hk => ?_⟩
          have hf := (List.getElem?_eq_some_iff.1 hk).1
          obtain ⟨u, h1, h2⟩ := Classical.choose_spec (hex i' f) (by omega) k hk
          refine ⟨u, h1, ?_⟩
          have : D.at_ (.l ((List.range ks.length).map fun f => Classical.choose (hex i' f))) f = Classical.choose (hex i' f) := by
            unfold D.at_
            rw [D.toL_l, List.getD_eq_getElem?_getD, List.getElem?_map, List.getElem?_range hf]; rfl
          rw [this]; exact h2
      · obtain ⟨u, h1, _⟩ := h (cap - 1) (by omega) (ks.length - 1) _ (List.getElem?_eq_getElem (by omega))
        rw [cell] at h1
        have h2 := (Array.getElem?_eq_some_iff.1 h1).1
        have h3 : cap * ks.length = (cap - 1) * ks.length + ks.length := by
          have : cap = (cap - 1) + 1 := by omega
          rw [this, Nat.add_mul]; simp
        omega
  · cases hu0

theorem leaf_den : ∀ {aks : List AK} {cs : List Value}, HoldsAll w aks cs → ∃ ds gs ls, LeafDen U w aks cs ds gs ls := by
  intro aks
  induction aks with
  | nil =>
    intro cs h
    have : cs = [] := List.eq_nil_of_length_eq_zero (by rw [h.1]; rfl)
    subst this
    exact ⟨[], [], [], rfl, rfl, rfl, fun j ks d h => by simp at h, fun r g L i b _ _ _ => ⟨by simp [leafGo, SV.denL], fun j s hs => by simp [leafBs] at hs⟩⟩
  | cons ak aks ih =>
    intro cs h
    cases cs with
    | nil => have := h.1; simp at this
    | cons v cs =>
      obtain ⟨ds, gs, ls, q1, q2, q3, q5, q4⟩ := ih (cs := cs) ⟨by have := h.1; simpa using this, fun j ak' v' h1 h2 => h.2 (j + 1) ak' v' (by simpa using h1) (by simpa using h2)⟩
      have h0 := h.2 0 ak v (by simp) (by simp)
      cases ak with
      | sc k =>
        obtain ⟨d, hd⟩ := h0
        refine ⟨d :: ds, gs, ls, by simp [q1], q2, q3, fun j ks e h1 h2 => (by
          cases j with
          | zero => simp at h1
          | succ j => exact q5 j ks e (by simpa using h1) (by simpa using h2)), fun r g L i b hr hg hl => ?_⟩
        obtain ⟨k1, k2⟩ := q4 r g L (i + 1) b (fun j e he => by rw [show i + 1 + j = i + (j + 1) by omega]; exact hr (j + 1) e (by simpa using he)) hg hl
        refine ⟨?_, k2⟩
        simp only [leafGo, SV.denL]
        refine ⟨skSV_iff.2 ?_, k1⟩
        have := hr 0 d (by simp)
        show k.den (r i) v
        rw [Nat.add_zero] at this
        rw [this]; exact hd
      | row ks =>
        obtain ⟨hk, h0⟩ := h0
        have dead : (∃ base, v = .slice base 0 0) → ∃ ds gs ls, LeafDen U w (.row ks :: aks) (v :: cs) ds gs ls := by
          rintro ⟨base, rfl⟩
          refine ⟨.l [] :: ds, (0, 0, 0) :: gs, False :: ls, by simp [q1], by simp [q2, rowsN], by simp [q3, rowsN], fun j ks e h1 h2 => (by
            cases j with
            | zero => simp at h2; subst h2; simp [D.toL]
            | succ j => exact q5 j ks e (by simpa using h1) (by simpa using h2)), fun r g L i b hr hg hl => ?_⟩
          obtain ⟨k1, k2⟩ := q4 r g L (i + 1) (b + 1) (fun j e he => by rw [show i + 1 + j = i + (j + 1) by omega]; exact hr (j + 1) e (by simpa using he))
            (fun j e he => by rw [show b + 1 + j = b + (j + 1) by omega]; exact hg (j + 1) e (by simpa using he)) (fun j e he => by rw [show b + 1 + j = b + (j + 1) by omega]; exact hl (j + 1) e (by simpa using he))
          have hri := hr 0 (.l []) (by simp)
          rw [Nat.add_zero] at hri
          refine ⟨?_, fun j s hs hlj => ?_⟩
          · simp only [leafGo, SV.denL]
            refine ⟨?_, k1⟩
            simp only [SV.den, mk1_ev, E.ev, hri]
            exact ⟨by simp [O1.ev, D.toI, D.toL], base, 0, by simp [O1.ev, D.toI, D.toL], by simp [O1.ev, D.toI, D.toL], .inl rfl⟩
          · cases j with
            | zero => exact ((hl 0 False (by simp)).1 hlj).elim
            | succ j =>
              simp only [leafBs, List.getElem?_cons_succ] at hs
              have := k2 j s hs (by rw [show b + 1 + j = b + (j + 1) by omega]; exact hlj)
              rw [show b + 1 + j = b + (j + 1) by omega] at this
              exact this
        rcases h0 with rfl | ⟨a, len, cap, rfl, ⟨hle, hmax⟩, hcell⟩
        · exact dead ⟨none, rfl⟩
        · rcases Nat.eq_zero_or_pos cap with hc | hc
          · subst hc
            have : len = 0 := by omega
            subst this
            exact dead ⟨some a, rfl⟩
          · obtain ⟨hspot, hlt, xs, t, fz, es, hb, hlen, hrow, hroom⟩ := row_there hk hle hc hcell
            refine ⟨.l es :: ds, (a.block, xs.size, a.off) :: gs, True :: ls, by simp [q1], by simp [q2, rowsN], by simp [q3, rowsN], fun j ks e h1 h2 => (by
              cases j with
              | zero => simp at h2; subst h2; rw [D.toL_l]; omega
              | succ j => exact q5 j ks e (by simpa using h1) (by simpa using h2)), fun r g L i b hr hg hl => ?_⟩
            obtain ⟨k1, k2⟩ := q4 r g L (i + 1) (b + 1) (fun j e he => by rw [show i + 1 + j = i + (j + 1) by omega]; exact hr (j + 1) e (by simpa using he))
              (fun j e he => by rw [show b + 1 + j = b + (j + 1) by omega]; exact hg (j + 1) e (by simpa using he)) (fun j e he => by rw [show b + 1 + j = b + (j + 1) by omega]; exact hl (j + 1) e (by simpa using he))
            have hri := hr 0 (.l es) (by simp)
            rw [Nat.add_zero] at hri
            have hg0 := hg 0 (a.block, xs.size, a.off) (by simp)
            rw [Nat.add_zero] at hg0
            have hl0 : L b := by have := (hl 0 True (by simp)).2 trivial; rwa [Nat.add_zero] at this
            refine ⟨?_, fun j s hs hlj => ?_⟩
            · simp only [leafGo, SV.denL]
              refine ⟨?_, k1⟩
              simp only [SV.den, mk1_ev, E.ev, hri]
              have hll : (O1.llen.ev (D.l es)).toI = ((len : Nat) : Int) := by simp [O1.ev, D.toI, D.toL, hlen]
              rw [hll]
              simp only [Int.toNat_natCast]
              refine ⟨by omega, some a, cap, rfl, hle, .inr ⟨hl0, ?_, by rw [hg0.2.1, hg0.2.2]; exact hroom⟩⟩
              rw [hg0.1, hg0.2.2]
              cases a; simp at hspot; subst hspot; rfl
            · cases j with
              | zero =>
                simp only [leafBs, List.getElem?_cons_zero, Option.some.injEq] at hs
                subst hs
                rw [Nat.add_zero]
                refine ⟨by rw [hg0.1]; exact hlt, xs, t, fz, by rw [hg0.1]; exact hb, hg0.2.1.symm, (fun h => by cases h), by simp, (fun j c hc => by simp at hc), fun ks' e' he' => ?_⟩
                cases he'
                rw [hg0.2.2]
                simp only [E.ev, hri, D.toL_l]
                exact hrow
              | succ j =>
                simp only [leafBs, List.getElem?_cons_succ] at hs
                have := k2 j s hs (by rw [show b + 1 + j = b + (j + 1) by omega]; exact hlj)
                rw [show b + 1 + j = b + (j + 1) by omega] at this
                exact this
end

/-- An argument: one cell, or a struct of cells. -/
inductive AArg where
  | one (a : AK)
  | ag (l : List AK)

def aArg (P : Program) (t : TypeId) : Option AArg :=
  match flatT P 10 t, P.underlying t with
  | some l, some (.struct _) => some (.ag l)
  | some [a], some _ => some (.one a)
  | _, _ => none

def aArgs (P : Program) : List TypeId → Option (List AArg)
  | [] => some []
  | t :: l => match aArg P t, aArgs P l with
    | some k, some m => some (k :: m)
    | _, _ => none

def AArg.leaves : AArg → List AK
  | .one a => [a]
  | .ag l => l

def argGoA : Nat → Nat → List AArg → List SV
  | _, _, [] => []
  | i, b, .one a :: l => leafGo i b [a] ++ argGoA (i + 1) (b + rowsN [a]) l
  | i, b, .ag as :: l => .agg (leafGo i b as) :: argGoA (i + as.length) (b + rowsN as) l

def argBs (i : Nat) (l : List AArg) : List SB := leafBs i (l.flatMap AArg.leaves)

/-- Slices are no longer than slices can be. -/
def pcGo : Nat → List AK → List (E × Bool)
  | _, [] => []
  | i, .sc _ :: l => pcGo (i + 1) l
  | i, .row _ :: l => (.o2 .ile (.o1 .llen (.v i)) (.i 9223372036854775807), true) :: pcGo (i + 1) l

/-- Where a walk of such a law begins. -/
def cxA (l : List AArg) : Cx := ⟨(argBs 0 l).map some, 1000, pcGo 0 (l.flatMap AArg.leaves)⟩

section
variable {H : Type} {enc : TypeId × Value → H} {P : Program} {w : World} {U : Nat → D → D}

theorem HoldsAll.append {aks bks : List AK} {cs es : List Value} (h : HoldsAll w aks cs) (h' : HoldsAll w bks es) : HoldsAll w (aks ++ bks) (cs ++ es) := by
  refine ⟨by simp [h.1, h'.1], fun j ak v h1 h2 => ?_⟩
  by_cases hj : j < aks.length
  · rw [List.getElem?_append_left hj] at h1
    rw [List.getElem?_append_left (by rw [h.1]; exact hj)] at h2
    exact h.2 j ak v h1 h2
  · rw [List.getElem?_append_right (by omega)] at h1
    rw [List.getElem?_append_right (by rw [h.1]; omega)] at h2
    rw [h.1] at h2
    exact h'.2 _ ak v h1 h2

theorem leafGo_append : ∀ (l m : List AK) (i b : Nat), leafGo i b (l ++ m) = leafGo i b l ++ leafGo (i + l.length) (b + rowsN l) m := by
  intro l
  induction l with
  | nil => intro m i b; simp [leafGo, rowsN]
  | cons a l ih =>
    intro m i b
    cases a with
    | sc k => simp only [List.cons_append, leafGo, ih, rowsN, List.length_cons]; congr 3; omega
    | row ks => simp only [List.cons_append, leafGo, ih, rowsN, List.length_cons]; congr 3 <;> omega

theorem leafGo_length : ∀ (l : List AK) (i b : Nat), (leafGo i b l).length = l.length := by
  intro l
  induction l with
  | nil => intro i b; rfl
  | cons a l ih => intro i b; cases a <;> simp [leafGo, ih]

/-- Values one behind the other, as their cells. -/
def cellsAll (vs : List Value) : List Value := vs.flatMap fun v => v.cells.toList

theorem denL_split {r : Nat → D} {g : Gh} {L : Nat → Prop} : ∀ {l m : List SV} {cs es : List Value}, l.length = cs.length → SV.denL U r g L (l ++ m) (cs ++ es) → SV.denL U r g L l cs ∧ SV.denL U r g L m es := by
  intro l
  induction l with
  | nil => intro m cs es hl h; have : cs = [] := List.eq_nil_of_length_eq_zero hl.symm; subst this; exact ⟨by simp [SV.denL], h⟩
  | cons a l ih =>
    intro m cs es hl h
    cases cs with
    | nil => simp at hl
    | cons c cs =>
      simp only [List.cons_append, SV.denL] at h ⊢
      obtain ⟨k1, k2⟩ := ih (by simpa using hl) h.2
      exact ⟨⟨h.1, k1⟩, k2⟩

theorem args_holds {base : Nat} {held : Bool} : ∀ {ts : List TypeId} {vs : List Value} {ds : List (DataW H)} {ps : List MemPlace} {as : List AArg}, aArgs P ts = some as → DataW.TrodAll enc P w 0 (fun _ => true) held ts vs ds ps →
    (∀ (j : Nat) t v, ts[j]? = some t → vs[j]? = some v → Value.okWide P w .any base t v) →
    HoldsAll w (as.flatMap AArg.leaves) (cellsAll vs) ∧ ∀ (r : Nat → D) (g : Gh) (L : Nat → Prop) (i b : Nat), SV.denL U r g L (leafGo i b (as.flatMap AArg.leaves)) (cellsAll vs) → SV.denL U r g L (argGoA i b as) vs := by
  intro ts
  induction ts with
  | nil =>
    intro vs ds ps as ha h _
    simp only [aArgs, Option.some.injEq] at ha
    subst ha
    obtain ⟨rfl, rfl, rfl⟩ := Go.ChangeShapes.trodAll_nil h
    exact ⟨⟨rfl, fun j ak v hj => by simp at hj⟩, fun r g L i b _ => by simp [argGoA, SV.denL]⟩
  | cons t ts ih =>
    intro vs ds ps as ha h hok
    simp only [aArgs] at ha
    split at ha
    · rename_i k m h1 h2
      cases ha
      obtain ⟨v, vs', d, ds', p, q, rfl, rfl, rfl, ⟨fuel, hv⟩, hvs⟩ := Go.ChangeShapes.trodAll_cons h
      obtain ⟨i1, i2⟩ := ih h2 hvs (fun j t v g1 g2 => hok (j + 1) t v (by simpa using g1) (by simpa using g2))
      have hv0 := hok 0 t v (by simp) (by simp)
      unfold aArg at h1
      split at h1
      · rename_i l fs hf hu
        cases h1
        have hh := flat_ok 10 _ t _ _ l hf hv
        refine ⟨by simpa [cellsAll, AArg.leaves] using hh.append i1, fun r g L i b hd => ?_⟩
        simp only [List.flatMap_cons, AArg.leaves, cellsAll] at hd
        rw [leafGo_append] at hd
        obtain ⟨d1, d2⟩ := denL_split (by rw [leafGo_length, hh.1]) hd
        simp only [argGoA, SV.denL]
        refine ⟨?_, i2 r g L _ _ d2⟩
        unfold Value.okWide at hv0
        rw [hu] at hv0
        obtain ⟨cs, rfl, _, _⟩ := hv0
        simp only [SV.den]
        exact ⟨cs, rfl, d1⟩
      · rename_i a dd hne hf hu
        cases h1
        have hh := flat_ok 10 _ t _ _ [a] hf hv
        refine ⟨by simpa [cellsAll, AArg.leaves] using hh.append i1, fun r g L i b hd => ?_⟩
        simp only [List.flatMap_cons, AArg.leaves, cellsAll] at hd
        rw [leafGo_append] at hd
        obtain ⟨d1, d2⟩ := denL_split (by rw [leafGo_length, hh.1]) hd
        simp only [argGoA]
        have hone : v.cells.toList = [v] := by
          cases v with
          | agg cs =>
            exfalso
            unfold Value.okWide at hv0
            rw [hu] at hv0
            cases dd with
            | struct fs => exact hne fs rfl
            | array n e => simp [flatT, hu, skOf] at hf
            | _ => simp [Cell.okWide, Cell.ok, hu] at hv0
          | _ => rfl
        rw [hone] at d1
        exact SV.denL_append U r g L d1 (i2 r g L _ _ d2)
      · cases h1
    · cases ha

/-- The memory of a law's arguments. -/
theorem heapA {as : List AArg} {cs : List Value} {ds : List D} {gs : List (Nat × Nat × Nat)} {ls : List Prop} (h : LeafDen U w (as.flatMap AArg.leaves) cs ds gs ls) :
    ∃ (g : Gh) (L : Nat → Prop), HeapDen U (rOf ds) g L (cxA as).h w ∧ SV.denL U (rOf ds) g L (leafGo 0 0 (as.flatMap AArg.leaves)) cs := by
  obtain ⟨q1, q2, q3, q5, q4⟩ := h
  let g : Gh := ⟨fun id => ((gs[id]?).map (·.1)).getD 0, fun id => ((gs[id]?).map (·.2.1)).getD 0, fun id => ((gs[id]?).map (·.2.2)).getD 0⟩
  let L : Nat → Prop := fun id => ∃ q, ls[id]? = some q ∧ q
  obtain ⟨k1, k2⟩ := q4 (rOf ds) g L 0 0 (fun j d hd => by rw [Nat.zero_add]; unfold rOf; rw [List.getD_eq_getElem?_getD, hd]; rfl)
    (fun j x hx => by rw [Nat.zero_add]; simp [g, hx]) (fun j q hq => by
      rw [Nat.zero_add]
      constructor
      · rintro ⟨q', h1, h2⟩; rw [hq] at h1; cases h1; exact h2
      · intro h; exact ⟨q, hq, h⟩)
  have len : (cxA as).h.length = ls.length := by simp [cxA, argBs, leafBs_length, q3]
  have get : ∀ {id : Nat} {s : SB}, (cxA as).h[id]? = some (some s) → (leafBs 0 (as.flatMap AArg.leaves))[id]? = some s := by
    intro id s hs
    have hs : ((argBs 0 as).map some)[id]? = some (some s) := hs
    rw [List.getElem?_map] at hs
    cases hx : (argBs 0 as)[id]? with
    | none => rw [hx] at hs; cases hs
    | some s' => rw [hx] at hs; simp only [Option.map_some, Option.some.injEq] at hs; subst hs; exact hx
  have wr : ∀ (l : List AK) (i id : Nat) (s : SB), (leafBs i l)[id]? = some s → s.wr = false ∧ s.cs = [] := by
    intro l
    induction l with
    | nil => intro i id s h; simp [leafBs] at h
    | cons a l ih =>
      intro i id s h
      cases a with
      | sc k => exact ih _ _ _ h
      | row ks =>
        cases id with
        | zero => simp [leafBs] at h; subst h; exact ⟨rfl, rfl⟩
        | succ id => exact ih _ _ _ (by simpa [leafBs] using h)
  have blk : ∀ {id : Nat} {s : SB}, L id → (cxA as).h[id]? = some (some s) → BlkDen U (rOf ds) g L w s id := fun {id s} hl hs => by
    have := k2 id s (get hs) (by rw [Nat.zero_add]; exact hl)
    rwa [Nat.zero_add] at this
  have some_ : ∀ {id}, L id → ∃ s, (cxA as).h[id]? = some (some s) := fun {id} hl => by
    obtain ⟨q, h1, _⟩ := hl
    have hlt : id < (cxA as).h.length := by rw [len]; exact (List.getElem?_eq_some_iff.1 h1).1
    have hlt' : id < (argBs 0 as).length := by simpa [cxA] using hlt
    exact ⟨(argBs 0 as)[id], by show ((argBs 0 as).map some)[id]? = _; rw [List.getElem?_map, List.getElem?_eq_getElem hlt']; rfl⟩
  refine ⟨g, L, ⟨fun id hl => ?_, fun id hl => ?_, fun id s hl hs => ?_, fun i j b b' _ _ hb hw _ _ => ?_, fun id s ks e hl hs hr => ?_, fun id s hs hw => ?_⟩, k1⟩
  · obtain ⟨q, h1, _⟩ := hl; rw [len]; exact (List.getElem?_eq_some_iff.1 h1).1
  · obtain ⟨s, hs⟩ := some_ hl; exact (blk hl hs).lt
  · obtain ⟨xs, t, fz, e1, e2, e3, e4, e5, _⟩ := (blk hl hs).cells
    exact ⟨xs, t, fz, e1, e2, e3, e4, e5⟩
  · rw [(wr _ _ _ _ (get hb)).1] at hw; cases hw
  · obtain ⟨xs, t, fz, e1, e2, e3, e4, e5, e6⟩ := (blk hl hs).cells
    exact ⟨xs, t, fz, e1, e6 ks e hr⟩
  · rw [(wr _ _ _ _ (get hs)).1] at hw; cases hw

theorem pcGo_ok {aks : List AK} : ∀ {i : Nat} {ds : List D} {r : Nat → D}, (∀ (j : Nat) (ks : List Sk) (d : D), aks[j]? = some (.row ks) → ds[j]? = some d → d.toL.length ≤ 9223372036854775807) → ds.length = aks.length → (∀ (j : Nat) (d : D), ds[j]? = some d → r (i + j) = d) → PcOk U r (pcGo i aks) := by
  induction aks with
  | nil => intro i ds r _ _ _ x hx; cases hx
  | cons a l ih =>
    intro i ds r h hl hr
    cases ds with
    | nil => simp at hl
    | cons d ds =>
      have tl : PcOk U r (pcGo (i + 1) l) := ih (fun j ks e h1 h2 => h (j + 1) ks e (by simpa using h1) (by simpa using h2)) (by simpa using hl) (fun j e he => by rw [show i + 1 + j = i + (j + 1) by omega]; exact hr (j + 1) e (by simpa using he))
      cases a with
      | sc k => exact tl
      | row ks =>
        intro x hx
        rcases List.mem_cons.1 hx with rfl | hx
        · have h0 := h 0 ks d (by simp) (by simp)
          have h1 := hr 0 d (by simp)
          rw [Nat.add_zero] at h1
          refine decide_eq_true ?_
          show (((r i).toL.length : Nat) : Int) ≤ 9223372036854775807
          rw [h1]; omega
        · exact tl x hx

/-- A walk at variables over memory that is not written: what it says of a call. -/
theorem closedA_lets {cf : FuncId → List SV → Cx → Tree (SV × Cx)} {r : Nat → D} {g : Gh} {L : Nat → Prop} {K : Value → World → Prop} (hcf : CallsOk U P cf) {f : FuncId} {args : List SV} {c : Cx} {vs : Array Value} (hp : PcOk U r c.pc) (hpu : c.pc.all (fun x => x.1.under 1000) = true)
    (hH : c.h.all (fun o => match o with | some s => !s.wr && underB 1000 s | none => true) = true) (hu : SV.underL 1000 args = true) (hh : HeapDen U r g L c.h w) (hd : SV.denL U r g L args vs.toList)
    (h : Lets U K w 1000 r (resT (cf f args c))) : CallGoal P f vs w K := by
  obtain ⟨r', ha, hs⟩ := lets_says h
  have hH' : ∀ (id : Nat) (s : SB), c.h[id]? = some (some s) → s.wr = false ∧ underB 1000 s = true := fun id s hs => by
    rw [List.all_eq_true] at hH
    have := hH _ (List.mem_of_getElem? hs)
    simpa using this
  refine hcf f args c L r' g w vs K (hh.under ha fun id s hs => (hH' id s hs).2) (pc_under hp (fun x hx => by rw [List.all_eq_true] at hpu; exact hpu x hx) ha) (SV.denL_under ha hu hd) (Tree.sat_mono ?_ (says_resT.1 hs))
  intro r'' x hx g' v w' he hd'
  refine hx g' _ v w' ⟨he.frm.os, he.frm.tape, he.frm.output, he.frm.size, fun k hk _ => he.frm.block k hk ?_⟩ hd'
  rintro ⟨id, s, _, h1, h2, _⟩
  rw [(hH' id s h1).1] at h2; cases h2

/-- A law by its walk: whatever stands at the variables, the walk's tree answers true. -/
structure LawIsA (U : Nat → D → D) (T : Tree SV) : Prop where
  ok : ∀ (r : Nat → D) (K : Value → World → Prop) (w : World), (∀ w', Frm (fun _ => False) w w' → K (.bool true) w') → Lets U K w 1000 r T

theorem law_of_A {T : Tree SV} (h : allTrueI 1000 ⟨[], [], [], [], []⟩ T = true) : LawIsA U T :=
  ⟨fun _ _ _ hK => allTrueI_lets hK h ⟨fun _ h => (by cases h), fun _ h => (by cases h), fun _ h => (by cases h), fun _ h => (by cases h), TOk.nil, TUnder.nil, fun _ h => (by cases h), fun _ h => (by cases h), TOk.nil, TUnder.nil⟩⟩
end

section
open Go.ChangeShapes Go.WideShapes Go.RowKit
variable {H : Type} {enc : TypeId × Value → H}

/-- A ROW: from a walk whose tree answers true; its arguments hold slices. -/
theorem row_lawA {C : Checked} {os : Os} {U : Nat → D → D} {cf : FuncId → List SV → Cx → Tree (SV × Cx)} {f : FuncId} {fn : Func} {body : Code} {as : List AArg} {rt : TypeId} {s : ChangeSpec} {fresh handsOn again : Bool}
    (own : ownKnob C.prog.godebug = none) (hl : laidOutB C.prog = true) (started : os.Started) (noInit : C.prog.inits.idxOf? f = none) (hn : NamesOk C.prog) (hcf : CallsOk U C.prog cf)
    (hfn : C.prog.funcs[f]? = some fn) (hbody : fn.body = some body) (hrt : fn.resultTypes = #[rt]) (hrb : C.prog.underlying rt = some .bool)
    (hr : (fn.params.toList.all fun t => C.prog.readableRec t && decide (t < C.prog.types.size)) = true) (hvars : s.vars = [])
    (hs : ∀ ds : List (DataW H), ds.length = fn.params.size → s.fn H ds = { results := [.lit (.bool true)], args := ds })
    (witness : ∃ (w : World) (tape : Tape) (i : Input), w.os = os ∧ (w.forCall tape i).Shaped C.prog ∧ i.vars = [] ∧ Input.okWide C.prog (w.forCall tape i) .any w.heap.size f i ∧
      s.pre6 enc C.prog fn [] false (w.forCall tape i).memory i.args ∧ ({} : Assume).holds C.prog (lone (Frame.enter C.prog f i.args .normal) [] (w.forCall tape i)))
    (has : aArgs C.prog fn.params.toList = some as) (hu : SV.underL 1000 (argGoA 0 0 as) = true)
    (hH : (cxA as).h.all (fun o => match o with | some s => !s.wr && underB 1000 s | none => true) = true) (hpu : (cxA as).pc.all (fun x => x.1.under 1000) = true) (hT : LawIsA U (resT (cf f (argGoA 0 0 as) (cxA as)))) :
    ReturnsInHanded {} C os f .any (s.pre6 enc C.prog fn [] false) (s.post enc C.prog fn false fresh handsOn again) := by
  refine returnsInHanded_of_change own started noInit hfn witness ?_
  intro W base args ds gs before hval hW _ _
  have hlen : ∀ {ts : List TypeId} {vs : List Value} {ds : List (DataW H)} {ps : List MemPlace}, DataW.TrodAll enc C.prog W 0 (fun _ => true) true ts vs ds ps → vs.length = ts.length ∧ ds.length = ts.length := by
    intro ts
    induction ts with
    | nil =>
      intro vs ds ps h
      obtain ⟨rfl, rfl, rfl⟩ := trodAll_nil h
      exact ⟨rfl, rfl⟩
    | cons t ts ih =>
      intro vs ds ps h
      obtain ⟨v, vs', d, ds', p, q, rfl, rfl, rfl, h1, h2⟩ := trodAll_cons h
      simp [ih h2]
  obtain ⟨p, q, hA, hV, rfl, hz, hnd⟩ := id hW
  rw [hvars] at hV
  obtain ⟨rfl, rfl⟩ := trodVars_none hV
  obtain ⟨l1, l2⟩ := hlen hA
  obtain ⟨i1, i2⟩ := args_holds (U := U) has hA (fun j t v h1 h2 => hval j t v (by simpa using h1) (by simpa using h2))
  obtain ⟨es, gs', ls, hleaf⟩ := leaf_den (U := U) i1
  obtain ⟨g, L, hheap, hden⟩ := heapA hleaf
  have hg : TrueGoal C.prog f args W := closedA_lets hcf (pcGo_ok hleaf.2.2.2.1 hleaf.1 (fun j d hd => by rw [Nat.zero_add]; unfold rOf; rw [List.getD_eq_getElem?_getD, hd]; rfl)) hpu hH hu hheap (i2 _ _ _ _ _ hden) (hT.ok _ _ W fun _ h => ⟨rfl, h⟩)
  refine (calls_of_goal hn hfn hbody hg).mono fun e W' ⟨v, he, hv, hf⟩ => ?_
  subst he; subst hv
  refine ⟨_, rfl, post_true hl hr hrt hrb hvars ?_ hW ⟨hf.os, hf.tape, hf.output, hf.size, fun k hk => hf.block k hk (fun h => h)⟩⟩
  rw [List.append_nil]
  exact hs ds (by rw [l2]; simp)
end

/-! ### A check in pieces -/

/-- The check of one part of a tree: where a test is open, the path says which way. -/
def pathI : List Bool → Nat → Ks → Tree SV → Bool
  | [], m, K, T => allTrueI m K T
  | _ :: _, _, _, .ret (.bool (.b true)) => true
  | b :: p, m, K, .ite c t e => c.under m && (match K.ask (normP K.env c).1 with
      | some d => bif d == (normP K.env c).2 then pathI (b :: p) m K t else pathI (b :: p) m K e
      | none => bif b then (against (implied K.env (normP K.env c).1 (normP K.env c).2) K.cs || pathI p m (K.learn (implied K.env (normP K.env c).1 (normP K.env c).2)) t)
        else (against (implied K.env (normP K.env c).1 (!(normP K.env c).2)) K.cs || pathI p m (K.learn (implied K.env (normP K.env c).1 (!(normP K.env c).2))) e))
  | b :: p, m, K, .chk (.o2 .fsame (.v i) e) t => Nat.ble m i && (e.under m && pathI (b :: p) (i + 1) (K.name i e) t)
  | _, _, _, _ => false

theorem pathI_nil (m : Nat) (K : Ks) (T : Tree SV) : pathI [] m K T = allTrueI m K T := by simp only [pathI]

theorem pathI_join : ∀ {T : Tree SV} {p : List Bool} {m : Nat} {K : Ks}, pathI (p ++ [true]) m K T = true → pathI (p ++ [false]) m K T = true → pathI p m K T = true := by
  intro T
  induction T with
  | ret x =>
    intro p m K h h'
    cases p with
    | nil =>
      simp only [List.nil_append] at h
      unfold pathI at h
      split at h
      · rename_i h0; cases h0
      · rename_i h0; cases h0; unfold pathI allTrueI; rfl
      · rename_i h0; cases h0
      · rename_i h0; cases h0
      · cases h
    | cons b p =>
      simp only [List.cons_append] at h
      unfold pathI at h ⊢
      split at h
      · rename_i h0; cases h0
      · rename_i h0; cases h0; rfl
      · rename_i h0; cases h0
      · rename_i h0; cases h0
      · cases h
  | ite c t e iht ihe =>
    intro p m K h h'
    cases p with
    | nil =>
      simp only [List.nil_append, pathI, Bool.and_eq_true] at h h'
      simp only [pathI, allTrueI, Bool.and_eq_true]
      refine ⟨h.1, ?_⟩
      cases hk : K.ask (normP K.env c).1 with
      | some d =>
        rw [hk] at h h'
        dsimp only at h h' ⊢
        cases hd : d == (normP K.env c).2 with
        | true => rw [hd] at h h'; rw [cond_true, ← pathI_nil]; exact iht (p := []) h.2 h'.2
        | false => rw [hd] at h h'; rw [cond_false, ← pathI_nil]; exact ihe (p := []) h.2 h'.2
      | none =>
        rw [hk] at h h'
        simp only [cond_true, cond_false] at h h'
        rw [Bool.and_eq_true]
        exact ⟨h.2, h'.2⟩
    | cons b p =>
      simp only [List.cons_append, pathI, Bool.and_eq_true] at h h' ⊢
      refine ⟨h.1, ?_⟩
      cases hk : K.ask (normP K.env c).1 with
      | some d =>
        rw [hk] at h h'
        dsimp only at h h' ⊢
        cases hd : d == (normP K.env c).2 with
        | true => rw [hd] at h h'; exact iht (p := b :: p) h.2 h'.2
        | false => rw [hd] at h h'; exact ihe (p := b :: p) h.2 h'.2
      | none =>
        rw [hk] at h h'
        dsimp only at h h' ⊢
        cases b with
        | true =>
          simp only [cond_true, Bool.or_eq_true] at h h' ⊢
          rcases h.2 with h1 | h1
          · exact .inl h1
          · rcases h'.2 with h2 | h2
            · exact .inl h2
            · exact .inr (iht h1 h2)
        | false =>
          simp only [cond_false, Bool.or_eq_true] at h h' ⊢
          rcases h.2 with h1 | h1
          · exact .inl h1
          · rcases h'.2 with h2 | h2
            · exact .inl h2
            · exact .inr (ihe h1 h2)
  | chk c t ih =>
    intro p m K h h'
    have shape : ∀ {b : Bool} {q : List Bool}, pathI (b :: q) m K (.chk c t) = true → ∃ i e, c = .o2 .fsame (.v i) e := by
      intro b q hq
      unfold pathI at hq
      split at hq
      · rename_i h0; cases h0
      · rename_i h0; cases h0
      · rename_i h0; cases h0
      · rename_i h0; cases h0; exact ⟨_, _, rfl⟩
      · cases hq
    cases p with
    | nil =>
      obtain ⟨i, e, rfl⟩ := shape (b := true) (q := []) h
      simp only [List.nil_append, pathI, Bool.and_eq_true] at h h'
      simp only [pathI, allTrueI, Bool.and_eq_true]
      exact ⟨h.1, h.2.1, by rw [← pathI_nil]; exact ih (p := []) h.2.2 h'.2.2⟩
    | cons b p =>
      obtain ⟨i, e, rfl⟩ := shape (b := b) (q := p ++ [true]) h
      simp only [List.cons_append, pathI, Bool.and_eq_true] at h h' ⊢
      exact ⟨h.1, h.2.1, ih (p := b :: p) h.2.2 h'.2.2⟩
  | all i t ih => intro p m K h; cases p <;> simp [pathI] at h
  | asm c t ih => intro p m K h; cases p <;> simp [pathI] at h
  | bad => intro p m K h; cases p <;> simp [pathI] at h
end Go.Sx
