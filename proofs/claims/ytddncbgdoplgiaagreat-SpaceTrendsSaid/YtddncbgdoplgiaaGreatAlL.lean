import Derived.Test.YtddncbgdoplgiaaGreatAlK
namespace Go.AL
open Go.RowKit

/-! ### putting parts together -/
theorem fold_splice (l : List Value) : ∀ (k off : Nat) (cells : Array Value), off + k + l.length ≤ cells.size →
    (l.zipIdx k).foldl (fun cs (x : Value × Nat) => cs.setIfInBounds (off + x.2) x.1) cells = (cells.toList.take (off + k) ++ (l ++ cells.toList.drop (off + k + l.length))).toArray := by
  induction l with
  | nil => intro k off cells _; simp
  | cons v l ih =>
    intro k off cells h
    simp only [List.zipIdx_cons, List.foldl_cons]
    rw [ih (k + 1) off _ (by simp at h ⊢; omega)]
    have e := list_seg_step cells.toList (off + k) v l (by simp at h ⊢; omega)
    congr 1
    simpa [Array.toList_setIfInBounds, Nat.add_assoc, Nat.add_comm 1] using e

theorem fill_one {place : Nat → Option (Nat × Nat)} {cells : Array Value} {i off size : Nat} {v : Value} {rest : List (Nat × Value)} (hp : place i = some (off, size))
    (hs : v.cells.size = size) (hf : off + size ≤ cells.size) :
    Instr.fill place cells ((i, v) :: rest) = Instr.fill place (cells.toList.take off ++ (v.cells.toList ++ cells.toList.drop (off + size))).toArray rest := by
  subst hs
  have h1 : ¬ (off + v.cells.size > cells.size) := by omega
  have h2 := fold_splice v.cells.toList 0 off cells (by simpa using hf)
  simp only [Nat.add_zero, Array.length_toList] at h2
  simp only [Instr.fill, hp]
  rw [if_neg (by simp; omega)]
  congr 1
  rw [← h2, ← Array.foldl_toList]
  simp

section
variable {P : Program} {C : Ctx} {S : AS} {a : Act} {w w' : World} {G : Gh} {ρ : List Nat} {K : Nat → Nat}

/-- the parts of an aggregate, one behind the other -/
def setParts (fs : List V) : List (Nat × V) → Option (List V)
  | [] => some fs
  | (i, v) :: rest => (fs[i]?).bind fun x => if v.isVal ∧ v.size = x.size then setParts (fs.set i v.view) rest else none

theorem fill_parts {place : Nat → Option (Nat × Nat)} : ∀ (parts : List (Nat × V)) (vals : List (Nat × Value)) (fs fs' : List V) (cs : List Value),
    V.wfs fs → CRs ρ K w (V.flats fs) cs [] → setParts fs parts = some fs' →
    (∀ i x, fs[i]? = some x → (∃ v, (i, v) ∈ parts) → place i = some (V.sizes (fs.take i), x.size)) →
    vals.map (·.1) = parts.map (·.1) → (∀ (j : Nat) i v x, parts[j]? = some (i, v) → vals[j]? = some (i, x) → ∃ r, VR ρ K w v x r) →
    ∃ cs', Instr.fill place cs.toArray vals = some cs'.toArray ∧ V.wfs fs' ∧ CRs ρ K w (V.flats fs') cs' [] ∧ V.sizes fs' = V.sizes fs
  | [], vals, fs, fs', cs, hw, hc, h, _, hm, _ => by
    simp only [setParts, Option.some.injEq] at h
    subst h
    obtain rfl : vals = [] := by simpa using hm
    exact ⟨cs, rfl, hw, hc, rfl⟩
  | (i, v) :: parts, vals, fs, fs', cs, hw, hc, h, hpl, hm, hv => by
    cases vals with
    | nil => simp at hm
    | cons y vals =>
      obtain ⟨i', x⟩ := y
      simp only [List.map_cons, List.cons.injEq] at hm
      obtain ⟨rfl, hm⟩ := hm
      simp only [setParts, Option.bind_eq_some_iff] at h
      obtain ⟨x0, hx0, h⟩ := h
      split at h
      · rename_i hcnd
        obtain ⟨r, hvr⟩ := hv 0 i' v x rfl rfl
        obtain ⟨hwv, hcv, _⟩ := VR0_cells (VR_val hvr.view (by rw [isVal_view]; exact hcnd.1))
        have hsv : v.view.size = x0.size := by rw [size_view]; exact hcnd.2
        obtain ⟨q1, q2, _⟩ := flats_part hx0 hw
        have hxl : x.cells.toList.length = x0.size := by rw [hcv.length, flat_length _ hwv, hsv]
        have hfl : cs.length = V.sizes fs := by rw [hc.length, flats_length _ hw]
        have hle := sizes_take_le hx0
        have hsz : x.cells.size = x0.size := by simpa using hxl
        rw [fill_one (hpl i' x0 hx0 ⟨v, by simp⟩) hsz (by simp [hfl]; exact hle)]
        rw [flats_take_drop hx0] at hc
        obtain ⟨r1, r23, hr, hc1, hc23⟩ := hc.split
        have hr0 := List.append_eq_nil_iff.1 hr.symm
        obtain ⟨rfl, rfl⟩ := hr0
        obtain ⟨r2, r3, hr, _, hc3⟩ := hc23.split
        obtain ⟨rfl, rfl⟩ := List.append_eq_nil_iff.1 hr.symm
        rw [q1] at hc1 hc3
        rw [q2, List.drop_drop] at hc3
        have hnew : CRs ρ K w (V.flats (fs.set i' v.view)) (cs.take (V.sizes (fs.take i')) ++ (x.cells.toList ++ cs.drop (V.sizes (fs.take i') + x0.size))) [] := by
          rw [flats_set hx0]
          exact hc1.append (hcv.append hc3)
        have hw' : V.wfs (fs.set i' v.view) := wfs_set hw hwv
        have hss : V.sizes (fs.set i' v.view) = V.sizes fs := sizes_set hx0 hsv
        obtain ⟨cs', g1, g2, g3, g4⟩ := fill_parts parts vals _ fs' _ hw' hnew h (fun k z hk ⟨u, hu⟩ => by
          by_cases hki : k = i'
          · subst hki
            rw [List.getElem?_set_self (List.getElem?_eq_some_iff.1 hx0).1] at hk
            injection hk with hk; subst hk
            rw [List.take_set_of_le (Nat.le_refl _), hsv]
            exact hpl k x0 hx0 ⟨v, by simp⟩
          · rw [List.getElem?_set_ne (Ne.symm hki)] at hk
            have h1 := hpl k z hk ⟨u, by simp [hu]⟩
            rw [h1]
            congr 2
            rw [List.take_set]
            by_cases hlt : i' < k
            · have : (fs.take k)[i']? = some x0 := by rw [List.getElem?_take_of_lt hlt]; exact hx0
              exact (sizes_set this hsv).symm
            · rw [List.set_eq_of_length_le (by simp; omega)]) hm (fun j k u y h1 h2 => hv (j + 1) k u y (by simpa using h1) (by simpa using h2))
        exact ⟨cs', g1, g2, g3, g4.trans hss⟩
      · cases h

/-- where the parts of a struct, of an array lie -/
def placeS (P : Program) (t : TypeId) (i : Nat) : Option (Nat × Nat) :=
  match P.underlying t with
  | some (.struct fs) => (fs[i]?).bind fun f => (tyS P f.type).map fun s => (f.offset, s.2)
  | some (.array _ e) => (tyS P e).map fun s => (i * s.2, s.2)
  | _ => none

theorem run_mapM_places (fs : List Field) (h : ∀ f ∈ fs, (tyS P f.type).isSome) : (fs.mapM (m := Sem) fun f => do pure (f.offset, ← sizeOf f.type)).run P w = .ok (fs.map fun f => (f.offset, P.cellsOf f.type)) w := by
  induction fs with
  | nil => rfl
  | cons f fs ih =>
    obtain ⟨s, hs⟩ := Option.isSome_iff_exists.1 (h f (by simp))
    obtain ⟨_, h2, h3⟩ := tyS_spec (w := w) (b := s.1) (n := s.2) hs
    have := ih (fun g hg => h g (by simp [hg]))
    simp only [List.mapM_cons, Sem.run_bind, h2, Result.andThen_ok, Sem.run_pure, this, h3, List.map_cons]

def V.parts : V → List V
  | .agg fs => fs
  | .arr _ _ xs => xs
  | _ => []
def V.withParts : V → List V → V
  | .agg _, fs => .agg fs
  | .arr n k _, xs => .arr n k xs
  | v, _ => v

def placesOk (P : Program) (t : TypeId) (fs : List V) (parts : List (Nat × V)) : Bool :=
  parts.all fun q => match fs[q.1]? with
    | some x => decide (placeS P t q.1 = some (V.sizes (fs.take q.1), x.size))
    | none => false

/-- a value has its type's shape; every field has a known type -/
def shapeOk (P : Program) (t : TypeId) (z : V) : Bool :=
  match z, P.underlying t with
  | .agg _, some (.struct fs) => fs.toList.all fun f => (tyS P f.type).isSome
  | .arr _ _ _, some (.array _ e) => (tyS P e).isSome
  | _, _ => false

def evBuild (P : Program) (t : TypeId) (f : Operand → V) (parts : List (Nat × Operand)) : Option V :=
  (zeroOf P t).bind fun z =>
    if shapeOk P t z = true ∧ placesOk P t z.parts (parts.map fun q => (q.1, f q.2)) = true then
      (setParts z.parts (parts.map fun q => (q.1, f q.2))).map z.withParts
    else none


theorem placesOk_spec {t : TypeId} {fs : List V} {parts : List (Nat × V)} (h : placesOk P t fs parts = true) {i : Nat} {x : V} (hx : fs[i]? = some x) (hi : ∃ v, (i, v) ∈ parts) :
    placeS P t i = some (V.sizes (fs.take i), x.size) := by
  obtain ⟨v, hv⟩ := hi
  have := (List.all_eq_true.1 h) (i, v) hv
  simpa [hx] using this

theorem evBuild_run {t : TypeId} {f : Operand → V} {e : Operand → Value} {parts : List (Nat × Operand)} {v : V} (h : evBuild P t f parts = some v) (hx : ∀ x, ∃ r, VR ρ K w (f x) (e x) r) :
    ∃ z, (Instr.build t (parts.map fun q => (q.1, e q.2)).toArray).run P w = .ok z w ∧ VR ρ K w v z [] := by
  unfold evBuild at h
  simp only [Option.bind_eq_some_iff] at h
  obtain ⟨z, hz, h⟩ := h
  split at h
  · rename_i hc
    simp only [Option.map_eq_some_iff] at h
    obtain ⟨fs', hp, rfl⟩ := h
    obtain ⟨hw, hty, hah, zv, hrun, hcr, hv0⟩ := zeroOf_spec (w := w) (ρ := ρ) (K := K) hz
    clear hah hv0 hty
    have hvals : ∀ (j : Nat) i v x, (parts.map fun q => (q.1, f q.2))[j]? = some (i, v) → (parts.map fun q => (q.1, e q.2))[j]? = some (i, x) → ∃ r, VR ρ K w v x r := by
      intro j i v x h1 h2
      simp only [List.getElem?_map, Option.map_eq_some_iff] at h1 h2
      obtain ⟨q, hq, h1⟩ := h1
      obtain ⟨q', hq', h2⟩ := h2
      rw [hq] at hq'; injection hq' with hq'; subst hq'
      injection h1 with _ h1; injection h2 with _ h2
      subst h1 h2
      exact hx q.2
    have hnames : (parts.map fun q => (q.1, e q.2)).map (·.1) = (parts.map fun q => (q.1, f q.2)).map (·.1) := by simp
    -- the places as the model has them
    have main : ∀ (place : Nat → Option (Nat × Nat)), (∀ i p, placeS P t i = some p → place i = some p) → V.wfs z.parts → V.flats z.parts = z.flat → V.sizes z.parts = z.size →
        (∀ fs, V.wfs fs → V.sizes fs = z.size → fs.length = z.parts.length → (∀ x ∈ fs, ∃ y ∈ z.parts, x.size = y.size) → (z.withParts fs).wf ∧ (z.withParts fs).flat = V.flats fs ∧ (z.withParts fs).isAgg = true) →
        ∃ cs', Instr.fill place zv.cells (parts.map fun q => (q.1, e q.2)) = some cs' ∧ VR ρ K w (z.withParts fs') (.agg cs') [] := by
      intro place hplace hwz hfz hsz hwith
      obtain ⟨cs', g1, g2, g3, g4⟩ := fill_parts (w := w) (ρ := ρ) (K := K) (place := place) _ (parts.map fun q => (q.1, e q.2)) z.parts fs' zv.cells.toList hwz (by rw [hfz]; exact hcr) hp
        (fun i x hxi hi => hplace _ _ (placesOk_spec hc.2 hxi hi)) hnames hvals
      have hlen : ∀ (ps : List (Nat × V)) (fs fs' : List V), setParts fs ps = some fs' → fs'.length = fs.length ∧ ((∀ x ∈ fs', ∃ y ∈ fs, x.size = y.size)) := by
        intro ps
        induction ps with
        | nil => intro fs fs' h; simp only [setParts, Option.some.injEq] at h; subst h; exact ⟨rfl, fun x hx => ⟨x, hx, rfl⟩⟩
        | cons p ps ih =>
          intro fs fs' h
          obtain ⟨i, v⟩ := p
          simp only [setParts, Option.bind_eq_some_iff] at h
          obtain ⟨x0, hx0, h⟩ := h
          split at h
          · rename_i hcc
            obtain ⟨k1, k2⟩ := ih _ _ h
            refine ⟨by simpa using k1, fun x hx => ?_⟩
            obtain ⟨y, hy, hxy⟩ := k2 x hx
            rcases List.mem_or_eq_of_mem_set hy with hy | rfl
            · exact ⟨y, hy, hxy⟩
            · exact ⟨x0, List.mem_of_getElem? hx0, by rw [hxy, size_view]; exact hcc.2⟩
          · cases h
      obtain ⟨k1, k2⟩ := hlen _ _ _ hp
      obtain ⟨m1, m2, m3⟩ := hwith fs' g2 (g4.trans hsz) k1 k2
      refine ⟨cs'.toArray, by simpa using g1, VR_of_VR0 ⟨m1, cs', by rw [m2]; exact g3, by simp [V.mk, m3]⟩⟩
    have hzc : (zeroValue t).run P w = .ok zv w := hrun
    have hsh := hc.1
    unfold shapeOk at hsh
    split at hsh
    · rename_i fs ffs hu
      obtain ⟨cs', g1, g2⟩ := main (fun i => (ffs.map fun f => (f.offset, P.cellsOf f.type))[i]?) (fun i p hp => by
        simp only [placeS, hu, Option.bind_eq_some_iff, Option.map_eq_some_iff] at hp
        obtain ⟨f, hf, s, hs, rfl⟩ := hp
        obtain ⟨_, _, h3⟩ := tyS_spec (w := w) (b := s.1) (n := s.2) hs
        simp [hf, h3]) (by simpa [V.wf, V.parts] using hw) rfl rfl (fun fs h1 h2 h3 h4 => ⟨by simpa [V.withParts, V.wf] using h1, rfl, rfl⟩)
      refine ⟨_, ?_, g2⟩
      have hm := run_mapM_places (P := P) (w := w) ffs.toList (fun f hf => (List.all_eq_true.1 hsh) f hf)
      simp only [Instr.build, Sem.run_bind, hzc, Result.andThen_ok, run_underlying hu]
      rw [show (ffs.mapM (m := Sem) fun f => do pure (f.offset, ← sizeOf f.type)) = (List.toArray <$> ffs.toList.mapM fun f => do pure (f.offset, ← sizeOf f.type)) from Array.mapM_eq_mapM_toList]
      simp only [Sem.run_map, hm, Result.andThen_ok]
      have hpl : (fun (i : Nat) => (ffs.toList.map fun f => (f.offset, P.cellsOf f.type)).toArray[i]?) = fun (i : Nat) => (ffs.map fun f => (f.offset, P.cellsOf f.type))[i]? := by
        funext i; simp
      rw [hpl, g1]; rfl
    · rename_i n k xs m e' hu
      obtain ⟨s, hs⟩ := Option.isSome_iff_exists.1 hsh
      obtain ⟨_, h2, _⟩ := tyS_spec (w := w) (b := s.1) (n := s.2) hs
      simp only [V.wf] at hw
      obtain ⟨cs', g1, g2⟩ := main (fun i => some (i * s.2, s.2)) (fun i p hp => by
        simp only [placeS, hu, hs, Option.map_some] at hp; exact hp) (by simpa [V.parts] using hw.2.1) rfl (by simp only [V.parts, V.size]; rw [sizes_const hw.2.2, hw.1]) (fun fs h1 h2 h3 h4 => by
          simp only [V.parts] at h3 h4
          refine ⟨?_, rfl, rfl⟩
          simp only [V.withParts, V.wf]
          exact ⟨h3.trans hw.1, h1, fun x hx => by obtain ⟨y, hy, he⟩ := h4 x hx; rw [he]; exact hw.2.2 y hy⟩)
      refine ⟨_, ?_, g2⟩
      simp only [Instr.build, Sem.run_bind, hzc, Result.andThen_ok, run_underlying hu, h2]
      rw [g1]; rfl
    · cases hsh
  · cases h

end
end Go.AL
