import Derived.Test.YtddncbgdoplgiaaGreatAlB
namespace Go.AL
open Go.RowKit

/-! ### What an operation does to a state: the judgement, and pure operations -/
def OpA (P : Program) (C : Ctx) (o : Oper) (S : AS) (K : AS → Prop) : Prop :=
  ∀ a w G (next : Act → World → Prop) Q, Rel C S a w G → (∀ S' a' w' G', K S' → Rel C S' a' w' G' → next a' w') → o.wp P a w next Q

theorem OpA.mono {P : Program} {C : Ctx} {o : Oper} {S : AS} {K K' : AS → Prop} (h : OpA P C o S K) (hk : ∀ S', K S' → K' S') : OpA P C o S K' :=
  fun a w G next Q hR hn => h a w G next Q hR fun S' a' w' G' h1 h2 => hn S' a' w' G' (hk _ h1) h2

section
variable {ρ : List Nat} {K : Nat → Nat} {w : World}

theorem VR_ofVal (c : Value) : VR ρ K w (V.ofVal c) c [] := by
  unfold V.ofVal
  split <;> first
    | rfl
    | (split
       · rfl
       · refine ⟨by simp [V.wf], [_], ⟨[], [], rfl, .flt _ _ (by assumption), rfl⟩, rfl⟩)
    | (refine ⟨by simp [V.wf], [_], ⟨[], [], rfl, ?_, rfl⟩, rfl⟩
       first | exact .bool _ | exact .int _ _ | exact .nilp | exact .nilm | exact .nilf | exact .nili | exact .own0 _ _ | exact .str _)

theorem Rel.ev {C : Ctx} {S : AS} {a : Act} {G : Gh} (h : Rel C S a w G) (x : Operand) : ∃ r, VR G.ρ G.K w (S.ev x) (a.eval x) r := by
  cases x with
  | tmp t => exact ⟨_, h.slots t⟩
  | const c => exact ⟨[], VR_ofVal c⟩
  | global g => exact ⟨[], rfl⟩
  | func f =>
    refine ⟨[], by simp [AS.ev, V.wf], [_], ⟨[], [], rfl, .fn f [] [] rfl (by simp), rfl⟩, rfl⟩

/-! inversions -/
theorem VR.cell {v : V} {x : Value} {r : List Nat} (h : VR ρ K w v x r) (hf : v.flat = [v]) (ha : v.isAgg = false) (ht : ∀ vs, v ≠ .tup vs) (hd : v ≠ .dead) : CR ρ K w v x r := by
  revert hf ha ht hd h
  refine VR.cases (P := fun v => VR ρ K w v x r → v.flat = [v] → v.isAgg = false → (∀ vs, v ≠ .tup vs) → v ≠ .dead → CR ρ K w v x r) v ?_ ?_ ?_
  · intro _ _ _ _ h; exact absurd rfl h
  · intro vs _ _ _ h _; exact absurd rfl (h vs)
  · intro v hv h hf ha _ _
    rw [hv] at h
    obtain ⟨_, cs, h1, h2⟩ := h
    rw [hf] at h1
    cases cs with
    | nil => simp [CRs] at h1
    | cons c cs =>
      obtain ⟨r1, r2, rfl, h3, h4⟩ := h1
      cases cs with
      | cons d ds => simp [CRs] at h4
      | nil =>
        simp only [CRs] at h4
        subst h4
        simp only [V.mk, ha, Bool.false_eq_true, if_false, List.headD_cons] at h2
        subst h2
        simpa using h3

theorem VR.of_cell {v : V} {x : Value} {r : List Nat} (h : CR ρ K w v x r) : VR ρ K w v x r := by
  have h' := h
  cases h <;> exact ⟨by simp [V.wf], [_], ⟨_, [], (List.append_nil _).symm, h', rfl⟩, rfl⟩

theorem VR_int {k : IntKind} {n : Int} {x : Value} {r : List Nat} (h : VR ρ K w (.int k n) x r) : x = .int k n ∧ r = [] := by
  have := h.cell rfl rfl (by simp) (by simp); cases this; exact ⟨rfl, rfl⟩
theorem VR_bool {b : Bool} {x : Value} {r : List Nat} (h : VR ρ K w (.bool b) x r) : x = .bool b ∧ r = [] := by
  have := h.cell rfl rfl (by simp) (by simp); cases this; exact ⟨rfl, rfl⟩
theorem VR_flt {k : FloatKind} {n : Nat} {x : Value} {r : List Nat} (h : VR ρ K w (.flt k n) x r) : ∃ b, x = .float k b ∧ r = [] ∧ ((n ≠ nanMark ∧ b = n) ∨ (n = nanMark ∧ (k.decode b).isNaN = true)) := by
  have := h.cell rfl rfl (by simp) (by simp)
  cases this with
  | flt _ _ hn => exact ⟨_, rfl, rfl, .inl ⟨hn, rfl⟩⟩
  | nan _ b hb => exact ⟨b, rfl, rfl, .inr ⟨rfl, hb⟩⟩
theorem VR_str {s : List UInt8} {x : Value} {r : List Nat} (h : VR ρ K w (.str s) x r) : x = .string ⟨s.toArray⟩ ∧ r = [] := by
  have := h.cell rfl rfl (by simp) (by simp); cases this; exact ⟨rfl, rfl⟩
theorem VR_nilp {x : Value} {r : List Nat} (h : VR ρ K w .nilp x r) : x = .pointer none ∧ r = [] := by
  have := h.cell rfl rfl (by simp) (by simp); cases this; exact ⟨rfl, rfl⟩
theorem VR_nilf {x : Value} {r : List Nat} (h : VR ρ K w .nilf x r) : x = .nilFunc ∧ r = [] := by
  have := h.cell rfl rfl (by simp) (by simp); cases this; exact ⟨rfl, rfl⟩
theorem VR_nilm {x : Value} {r : List Nat} (h : VR ρ K w .nilm x r) : x = .map none ∧ r = [] := by
  have := h.cell rfl rfl (by simp) (by simp); cases this; exact ⟨rfl, rfl⟩
theorem VR_ptr {o off : Nat} {p : List Nat} {x : Value} {r : List Nat} (h : VR ρ K w (.ptr o off p) x r) : ∃ b, ρ[o]? = some b ∧ x = .pointer (some ⟨b, off, none⟩) ∧ r = [] := by
  have := h.cell rfl rfl (by simp) (by simp); cases this; exact ⟨_, ‹_›, rfl, rfl⟩
theorem VR_bsl {o off lo len : Nat} {p : List Nat} {x : Value} {r : List Nat} (h : VR ρ K w (.bsl o off p lo len) x r) : ∃ b c, ρ[o]? = some b ∧ len ≤ c ∧ x = .slice (some ⟨b, off, none⟩) len c ∧ r = [] := by
  have := h.cell rfl rfl (by simp) (by simp); cases this; exact ⟨_, _, ‹_›, ‹_›, rfl, rfl⟩
theorem VR_mp {o : Nat} {x : Value} {r : List Nat} (h : VR ρ K w (.mp o) x r) : ∃ b, ρ[o]? = some b ∧ x = .map (some b) ∧ r = [] := by
  have := h.cell rfl rfl (by simp) (by simp); cases this; exact ⟨_, ‹_›, rfl, rfl⟩
theorem VR_elem {v : V} {x : Value} {r : List Nat} (h : VR ρ K w (.elem v) x r) :
    ∃ (b off : Nat) (vs : Nat → Value), x = .pointer (some ⟨b, off, none⟩) ∧ r = [] ∧ v.wf ∧ (∀ i u, v.flat[i]? = some u → CR ρ K w u (vs i) []) ∧
      ∀ i, i < v.flat.length → w.cell? ⟨b, off + i, none⟩ = some (vs i) ∧ off + i < K b := by
  have := h.cell rfl rfl (by simp) (by simp)
  cases this with | elem _ b off vs hw hv hs => exact ⟨b, off, vs, rfl, rfl, hw, hv, hs⟩
theorem VR_agg {fs : List V} {x : Value} {r : List Nat} (h : VR ρ K w (.agg fs) x r) : ∃ cs : List Value, x = .agg cs.toArray ∧ V.wfs fs ∧ CRs ρ K w (V.flats fs) cs r := by
  obtain ⟨h1, cs, h2, h3⟩ := h
  exact ⟨cs, h3, by simpa [V.wf] using h1, by simpa [V.flat] using h2⟩
theorem VR_arr {n k : Nat} {xs : List V} {x : Value} {r : List Nat} (h : VR ρ K w (.arr n k xs) x r) :
    ∃ cs : List Value, x = .agg cs.toArray ∧ xs.length = n ∧ V.wfs xs ∧ (∀ x ∈ xs, x.size = k) ∧ CRs ρ K w (V.flats xs) cs r := by
  obtain ⟨h1, cs, h2, h3⟩ := h
  simp only [V.wf] at h1
  exact ⟨cs, h3, h1.1, h1.2.1, h1.2.2, by simpa [V.flat] using h2⟩
theorem VR_tup {vs : List V} {x : Value} {r : List Nat} (h : VR ρ K w (.tup vs) x r) : ∃ ws : List Value, x = .tuple ws.toArray ∧ TR ρ K w vs ws r := h

/-- a slice's value -/
def V.elems? : V → Option (List V)
  | .list xs => some xs
  | .own _ _ xs => some xs
  | _ => none

theorem VR_slice {v : V} {xs : List V} {x : Value} {r : List Nat} (hv : v.elems? = some xs) (h : VR ρ K w v x r) :
    (∃ a c, x = .slice a 0 c ∧ xs = []) ∨ ∃ (b off c k : Nat) (vs : Nat → Value), x = .slice (some ⟨b, off, none⟩) xs.length c ∧ xs.length ≤ c ∧ V.wfs xs ∧ (∀ x ∈ xs, x.size = k) ∧
      (∀ i u, (V.flats xs)[i]? = some u → CR ρ K w u (vs i) []) ∧ (∀ i, i < (V.flats xs).length → w.cell? ⟨b, off + i, none⟩ = some (vs i) ∧ off + i < K b) := by
  cases v <;> simp [V.elems?] at hv
  all_goals
    subst hv
    have h2 := h.cell rfl rfl (by simp) (by simp)
  · cases h2 with
    | list0 a c => exact .inl ⟨a, c, rfl, rfl⟩
    | list _ b off c k vs hc hw hk hv hs => exact .inr ⟨b, off, c, k, vs, rfl, hc, hw, hk, hv, hs⟩
  · cases h2 with
    | own0 => exact .inl ⟨none, 0, rfl, rfl⟩
    | own _ b c k vs cells e h0 hc hm hw hk hv hb hs hcap hK =>
      exact .inr ⟨b, 0, c, _, vs, rfl, hc, hw, hk, hv, fun i hi => ⟨by rw [Nat.zero_add, cell?_of_cells hb]; exact hs i hi, by rw [hK]; omega⟩⟩

/-- a part of a row that will not change is a slice -/
theorem CR_list_of {xs : List V} {b off c k : Nat} {vs : Nat → Value} (hc : xs.length ≤ c) (hw : V.wfs xs) (hk : ∀ x ∈ xs, x.size = k)
    (hv : ∀ i u, (V.flats xs)[i]? = some u → CR ρ K w u (vs i) [])
    (hs : ∀ i, i < (V.flats xs).length → w.cell? ⟨b, off + i, none⟩ = some (vs i) ∧ off + i < K b) {n : Nat} (hn : n = xs.length) :
    CR ρ K w (.list xs) (.slice (some ⟨b, off, none⟩) n c) [] := by
  subst hn; exact .list xs b off c k vs hc hw hk hv hs

/-! ### lists of cells by place -/
theorem flats_take_drop {xs : List V} {i : Nat} {x : V} (h : xs[i]? = some x) : V.flats xs = V.flats (xs.take i) ++ (x.flat ++ V.flats (xs.drop (i + 1))) := by
  have hi : i < xs.length := (List.getElem?_eq_some_iff.1 h).1
  have hx : xs[i] = x := (List.getElem?_eq_some_iff.1 h).2
  conv => lhs; rw [← List.take_append_drop i xs, List.drop_eq_getElem_cons hi, hx]
  rw [flats_append]; simp [V.flats]

theorem wfs_get {xs : List V} {i : Nat} {x : V} (h : xs[i]? = some x) (hw : V.wfs xs) : x.wf := wfs_iff.1 hw x (List.mem_of_getElem? h)
theorem wfs_take {xs : List V} (i : Nat) (hw : V.wfs xs) : V.wfs (xs.take i) := wfs_iff.2 fun x hx => wfs_iff.1 hw x (List.mem_of_mem_take hx)
theorem wfs_drop {xs : List V} (i : Nat) (hw : V.wfs xs) : V.wfs (xs.drop i) := wfs_iff.2 fun x hx => wfs_iff.1 hw x (List.mem_of_mem_drop hx)

/-- the cells of part i -/
theorem flats_part {xs : List V} {i : Nat} {x : V} (h : xs[i]? = some x) (hw : V.wfs xs) :
    (V.flats (xs.take i)).length = V.sizes (xs.take i) ∧ x.flat.length = x.size ∧ ∀ j, j < x.size → (V.flats xs)[V.sizes (xs.take i) + j]? = x.flat[j]? := by
  have h1 := flats_length _ (wfs_take i hw)
  have h2 := flat_length x (wfs_get h hw)
  refine ⟨h1, h2, fun j hj => ?_⟩
  rw [flats_take_drop h, List.getElem?_append_right (by omega), h1, Nat.add_sub_cancel_left, List.getElem?_append_left (by omega)]

theorem sizes_take_le {xs : List V} {i : Nat} {x : V} (h : xs[i]? = some x) : V.sizes (xs.take i) + x.size ≤ V.sizes xs := by
  have hi : i < xs.length := (List.getElem?_eq_some_iff.1 h).1
  have hx : xs[i] = x := (List.getElem?_eq_some_iff.1 h).2
  have : V.sizes xs = V.sizes (xs.take i) + (x.size + V.sizes (xs.drop (i + 1))) := by
    conv => lhs; rw [← List.take_append_drop i xs, List.drop_eq_getElem_cons hi, hx]
    rw [sizes_append]; simp [V.sizes]
  omega

theorem sizes_take_const {xs : List V} {k : Nat} (hk : ∀ x ∈ xs, x.size = k) {i : Nat} (hi : i ≤ xs.length) : V.sizes (xs.take i) = i * k := by
  rw [sizes_const (fun x hx => hk x (List.mem_of_mem_take hx))]; simp [Nat.min_eq_left hi]

/-- a part of an aggregate, by value -/
theorem CRs.part {xs : List V} {cs : List Value} {r : List Nat} (h : CRs ρ K w (V.flats xs) cs r) (hw : V.wfs xs) {i : Nat} {x : V} (hx : xs[i]? = some x) :
    ∃ r', (∀ b ∈ r', b ∈ r) ∧ CRs ρ K w x.flat ((cs.drop (V.sizes (xs.take i))).take x.size) r' := by
  obtain ⟨h1, h2, _⟩ := flats_part hx hw
  rw [flats_take_drop hx] at h
  obtain ⟨r1, r2, rfl, _, h4⟩ := h.split
  obtain ⟨r3, r4, rfl, h5, _⟩ := h4.split
  rw [h1, h2] at h5
  exact ⟨r3, fun b hb => by simp [hb], h5⟩

end

/-- a pure operation -/
theorem OpA.pure {P : Program} {C : Ctx} {o : Oper} {S : AS} {d : Nat} {v : V} (ho : o.dst = some d) (hd : d < S.n)
    (h : ∀ a w G, Rel C S a w G → ∃ x, (execOp a.eval o).run P w = .ok (.value x) w ∧ VR G.ρ G.K w v x []) : OpA P C o S (· = S.put d v) := by
  intro a w G next Q hR hn
  obtain ⟨x, h1, h2⟩ := h a w G hR
  unfold Oper.wp
  rw [h1, Oper.upon_value, ho]
  exact hn _ _ _ _ rfl (hR.put0 hd h2)

/-- a pure operation whose result a slot does not take -/
theorem OpA.pureU {P : Program} {C : Ctx} {o : Oper} {S : AS} (ho : o.dst = none)
    (h : ∀ a w G, Rel C S a w G → ∃ x, (execOp a.eval o).run P w = .ok (.value x) w) : OpA P C o S (· = S) := by
  intro a w G next Q hR hn
  obtain ⟨x, h1⟩ := h a w G hR
  unfold Oper.wp
  rw [h1, Oper.upon_value, ho]
  exact hn _ _ _ _ rfl hR

end Go.AL
