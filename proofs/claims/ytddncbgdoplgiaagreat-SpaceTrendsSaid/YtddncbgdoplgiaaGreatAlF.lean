import Derived.Test.YtddncbgdoplgiaaGreatAlE
namespace Go.AL
open Go.RowKit

/-! ### Parts of a value by their path -/
def V.at? : V → List Nat → Option (Nat × V)
  | v, [] => some (0, v)
  | .agg fs, i :: p => (fs[i]?).bind fun x => (x.at? p).map fun r => (V.sizes (fs.take i) + r.1, r.2)
  | .arr _ k xs, i :: p => (xs[i]?).bind fun x => (x.at? p).map fun r => (i * k + r.1, r.2)
  | _, _ :: _ => none
def V.set : V → List Nat → V → V
  | _, [], u => u
  | .agg fs, i :: p, u => .agg (fs.set i ((fs.getD i .dead).set p u))
  | .arr n k xs, i :: p, u => .arr n k (xs.set i ((xs.getD i .dead).set p u))
  | v, _ :: _, _ => v

theorem flats_set {xs : List V} {i : Nat} {x : V} (h : xs[i]? = some x) (y : V) : V.flats (xs.set i y) = V.flats (xs.take i) ++ (y.flat ++ V.flats (xs.drop (i + 1))) := by
  have hi : i < xs.length := (List.getElem?_eq_some_iff.1 h).1
  have h1 : (xs.set i y)[i]? = some y := by simp [hi]
  rw [flats_take_drop h1, List.take_set_of_le (by omega), List.drop_set_of_lt (by omega)]
theorem sizes_set {xs : List V} {i : Nat} {x : V} (h : xs[i]? = some x) {y : V} (hy : y.size = x.size) : V.sizes (xs.set i y) = V.sizes xs := by
  induction xs generalizing i with
  | nil => simp
  | cons z xs ih =>
    cases i with
    | zero => simp at h; subst h; simp [V.sizes, hy]
    | succ i => simp [V.sizes, ih (by simpa using h)]
theorem wfs_set {xs : List V} {i : Nat} {y : V} (h : V.wfs xs) (hy : y.wf) : V.wfs (xs.set i y) :=
  wfs_iff.2 fun x hx => (List.mem_or_eq_of_mem_set hx).elim (wfs_iff.1 h x) (fun e => e ▸ hy)

theorem at_split : ∀ (p : List Nat) (v : V) (o : Nat) (u : V), v.wf → v.at? p = some (o, u) → u.wf ∧ ∃ pre post, pre.length = o ∧ v.flat = pre ++ (u.flat ++ post) ∧
    ∀ u', u'.wf → u'.size = u.size → (v.set p u').wf ∧ (v.set p u').size = v.size ∧ (v.set p u').flat = pre ++ (u'.flat ++ post)
  | [], v, o, u, hw, h => by
    simp only [V.at?, Option.some.injEq, Prod.mk.injEq] at h
    obtain ⟨rfl, rfl⟩ := h
    exact ⟨hw, [], [], rfl, by simp, fun u' h1 h2 => by simp [V.set, h1, h2]⟩
  | i :: p, v, o, u, hw, h => by
    cases v with
    | agg fs =>
      simp only [V.at?] at h
      cases hx : fs[i]? with
      | none => simp [hx] at h
      | some x =>
        simp only [hx, Option.bind_some, Option.map_eq_some_iff] at h
        obtain ⟨⟨o1, u1⟩, h1, h2⟩ := h
        injection h2 with h2 h3
        subst h3
        simp only at h2
        simp only [V.wf] at hw
        obtain ⟨g1, pre, post, g2, g3, g4⟩ := at_split p x o1 u1 (wfs_get hx hw) h1
        obtain ⟨q1, q2, _⟩ := flats_part hx hw
        refine ⟨g1, V.flats (fs.take i) ++ pre, post ++ V.flats (fs.drop (i + 1)), by rw [List.length_append, q1, g2, h2], ?_, fun u' k1 k2 => ?_⟩
        · simp only [V.flat]; rw [flats_take_drop hx, g3]; simp
        · obtain ⟨m1, m2, m3⟩ := g4 u' k1 k2
          have hd : fs.getD i .dead = x := by simp [List.getD, hx]
          simp only [V.set, hd, V.wf, V.size, V.flat]
          exact ⟨wfs_set hw m1, sizes_set hx m2, by rw [flats_set hx, m3]; simp⟩
    | arr n k xs =>
      simp only [V.at?] at h
      cases hx : xs[i]? with
      | none => simp [hx] at h
      | some x =>
        simp only [hx, Option.bind_some, Option.map_eq_some_iff] at h
        obtain ⟨⟨o1, u1⟩, h1, h2⟩ := h
        injection h2 with h2 h3
        subst h3
        simp only at h2
        simp only [V.wf] at hw
        obtain ⟨hl, hw, hk⟩ := hw
        obtain ⟨g1, pre, post, g2, g3, g4⟩ := at_split p x o1 u1 (wfs_get hx hw) h1
        obtain ⟨q1, q2, _⟩ := flats_part hx hw
        have hi : i < xs.length := (List.getElem?_eq_some_iff.1 hx).1
        rw [sizes_take_const hk (by omega)] at q1
        refine ⟨g1, V.flats (xs.take i) ++ pre, post ++ V.flats (xs.drop (i + 1)), by rw [List.length_append, q1, g2, h2], ?_, fun u' k1 k2 => ?_⟩
        · simp only [V.flat]; rw [flats_take_drop hx, g3]; simp
        · obtain ⟨m1, m2, m3⟩ := g4 u' k1 k2
          have hd : xs.getD i .dead = x := by simp [List.getD, hx]
          simp only [V.set, hd, V.wf, V.size, V.flat]
          refine ⟨⟨by simp [hl], wfs_set hw m1, fun y hy => ?_⟩, trivial, by rw [flats_set hx, m3]; simp⟩
          rcases List.mem_or_eq_of_mem_set hy with hy | rfl
          · exact hk y hy
          · rw [m2]; exact hk x (List.mem_of_getElem? hx)
    | _ => simp [V.at?] at h

theorem getD_or_mem (xs : List V) (i : Nat) : xs.getD i .dead = .dead ∨ xs.getD i .dead ∈ xs := by
  rw [List.getD_eq_getElem?_getD]
  cases h : xs[i]? with
  | none => exact .inl rfl
  | some x => exact .inr (List.mem_of_getElem? h)

theorem set_ahead {n : Nat} : ∀ (p : List Nat) (v u : V), v.ahead n = true → u.ahead n = true → (v.set p u).ahead n = true
  | [], v, u, _, hu => by simpa [V.set] using hu
  | i :: p, v, u, hv, hu => by
    cases v with
    | agg fs =>
      simp only [V.set, V.ahead] at *
      rw [aheads_iff] at *
      intro x hx
      rcases List.mem_or_eq_of_mem_set hx with hx | rfl
      · exact hv x hx
      · refine set_ahead p _ u ?_ hu
        rcases getD_or_mem fs i with h | h
        · rw [h]; rfl
        · exact hv _ h
    | arr n k xs =>
      simp only [V.set, V.ahead] at *
      rw [aheads_iff] at *
      intro x hx
      rcases List.mem_or_eq_of_mem_set hx with hx | rfl
      · exact hv x hx
      · refine set_ahead p _ u ?_ hu
        rcases getD_or_mem xs i with h | h
        · rw [h]; rfl
        · exact hv _ h
    | _ => simpa [V.set] using hv

section
variable {P : Program} {ρ : List Nat} {K : Nat → Nat} {w : World}

/-! ### addresses -/
def evFieldAddr (P : Program) (t : TypeId) (u : V) (i : Nat) : Option V :=
  (fldS P t i).bind fun f => (tyS P f.2).bind fun s =>
    if s.2 = 0 then none else
    match u with
    | .ptr o off p => some (.ptr o (off + f.1) (p ++ [i]))
    | .elem (.agg fs) => (fs[i]?).bind fun x => if V.sizes (fs.take i) = f.1 ∧ x.size = s.2 then some (.elem x) else none
    | _ => none

theorem addr_add (b off n : Nat) : (⟨b, off, none⟩ : Addr).add n = ⟨b, off + n, none⟩ := by
  unfold Addr.add; split
  · rename_i h; subst h; rfl
  · rfl

/-- a part of what an element's address leads to -/
theorem VR_elem_part {v : V} {b off : Nat} {vs : Nat → Value} (hv : ∀ i u, v.flat[i]? = some u → CR ρ K w u (vs i) [])
    (hs : ∀ i, i < v.flat.length → w.cell? ⟨b, off + i, none⟩ = some (vs i) ∧ off + i < K b) {x : V} (hx : x.wf) {pre post : List V} (hf : v.flat = pre ++ (x.flat ++ post)) :
    VR ρ K w (.elem x) (.pointer (some ⟨b, off + pre.length, none⟩)) [] := by
  refine VR.of_cell (.elem x b (off + pre.length) (fun i => vs (pre.length + i)) hx (fun i u hu => hv _ u ?_) fun i hi => ?_)
  · rw [hf, List.getElem?_append_right (by omega), Nat.add_sub_cancel_left, List.getElem?_append_left (List.getElem?_eq_some_iff.1 hu).1]; exact hu
  · have := hs (pre.length + i) (by rw [hf]; simp; omega)
    rw [← Nat.add_assoc] at this; exact this

theorem evFieldAddr_run {t : TypeId} {u v : V} {i : Nat} {x : Value} {rx : List Nat} (h : evFieldAddr P t u i = some v) (hx : VR ρ K w u x rx) :
    ∃ z, (Instr.fieldAt t x i).run P w = .ok z w ∧ VR ρ K w v z [] := by
  unfold evFieldAddr at h
  cases hf : fldS P t i with
  | none => simp [hf] at h
  | some f =>
    cases hs : tyS P f.2 with
    | none => simp [hf, hs] at h
    | some s =>
      simp only [hf, hs, Option.bind_some] at h
      split at h
      · cases h
      · rename_i h0
        obtain ⟨fs', f', hu, hg, ho, hty⟩ := fldS_spec (off := f.1) (ft := f.2) hf
        obtain ⟨_, hsz, _⟩ := tyS_spec (w := w) (b := s.1) (n := s.2) hs
        have key : ∀ b off, (Instr.fieldAt t (.pointer (some ⟨b, off, none⟩)) i).run P w = .ok (.pointer (some ⟨b, off + f.1, none⟩)) w := fun b off => by
          simp [Instr.fieldAt, run_underlying hu, hg, Instr.sureAddr, fieldPlace, hty, hsz, h0, ho, addr_add]
        split at h
        · injection h with h; subst h
          obtain ⟨b, hb, rfl, _⟩ := VR_ptr hx
          exact ⟨_, key _ _, VR.of_cell (.ptr _ _ _ b hb)⟩
        · rename_i fs
          cases hxi : fs[i]? with
          | none => simp [hxi] at h
          | some y =>
            simp only [hxi, Option.bind_some] at h
            split at h
            · rename_i hc
              injection h with h; subst h
              obtain ⟨b, off, vs, rfl, _, hw, hv, hcell⟩ := VR_elem hx
              simp only [V.wf] at hw
              obtain ⟨q1, _, _⟩ := flats_part hxi hw
              have := VR_elem_part (v := .agg fs) hv hcell (wfs_get hxi hw) (pre := V.flats (fs.take i)) (post := V.flats (fs.drop (i + 1))) (by simp only [V.flat]; exact flats_take_drop hxi)
              rw [q1, hc.1] at this
              exact ⟨_, key _ _, this⟩
            · cases h
        · cases h

def evIndexAddr (P : Program) (t : TypeId) (u i : V) : Option V :=
  match i with
  | .int _ j =>
    if 0 ≤ j then
      match u with
      | .ptr o off p => (arrS P t).bind fun a => (tyS P a.2).bind fun s => if j < a.1 then some (.ptr o (off + j.toNat * s.2) (p ++ [j.toNat])) else none
      | .elem (.arr n k xs) => (arrS P t).bind fun a => (tyS P a.2).bind fun s => if j < a.1 ∧ a.1 = n ∧ s.2 = k then (xs[j.toNat]?).map .elem else none
      | .list xs | .own _ _ xs => (slcS P t).bind fun e => (tyS P e).bind fun s => (xs[j.toNat]?).bind fun x => if x.size = s.2 then some (.elem x) else none
      | _ => none
    else none
  | _ => none

theorem evIndexAddr_run {t : TypeId} {u v vi : V} {x i : Value} {rx ri : List Nat} (h : evIndexAddr P t u vi = some v) (hx : VR ρ K w u x rx) (hi : VR ρ K w vi i ri) :
    ∃ z, (Instr.indexAt t x i).run P w = .ok z w ∧ VR ρ K w v z [] := by
  unfold evIndexAddr at h
  split at h
  · rename_i kk j
    obtain ⟨rfl, _⟩ := VR_int hi
    split at h
    · rename_i h0
      split at h
      · rename_i o off p
        simp only [Option.bind_eq_some_iff] at h
        obtain ⟨a, ha, s, hs, h⟩ := h
        split at h
        · rename_i hj
          injection h with h; subst h
          obtain ⟨b, hb, rfl, _⟩ := VR_ptr hx
          obtain ⟨_, hsz, _⟩ := tyS_spec (w := w) (b := s.1) (n := s.2) hs
          have hu := arrS_spec (n := a.1) (e := a.2) ha
          refine ⟨_, ?_, VR.of_cell (.ptr _ _ _ b hb)⟩
          simp [Instr.indexAt, run_underlying hu, asIntOf, Instr.sureAddr, h0, hj, hsz, addr_add]
        · cases h
      · rename_i n k xs
        simp only [Option.bind_eq_some_iff] at h
        obtain ⟨a, ha, s, hs, h⟩ := h
        split at h
        · rename_i hj
          simp only [Option.map_eq_some_iff] at h
          obtain ⟨y, hy, rfl⟩ := h
          obtain ⟨b, off, vs, rfl, _, hw, hv, hcell⟩ := VR_elem hx
          simp only [V.wf] at hw
          obtain ⟨_, hsz, _⟩ := tyS_spec (w := w) (b := s.1) (n := s.2) hs
          have hu := arrS_spec (n := a.1) (e := a.2) ha
          obtain ⟨q1, _, _⟩ := flats_part hy hw.2.1
          have hlt : j.toNat < xs.length := (List.getElem?_eq_some_iff.1 hy).1
          rw [sizes_take_const hw.2.2 (by omega)] at q1
          have := VR_elem_part (v := .arr n k xs) hv hcell (wfs_get hy hw.2.1) (pre := V.flats (xs.take j.toNat)) (post := V.flats (xs.drop (j.toNat + 1))) (by simp only [V.flat]; exact flats_take_drop hy)
          rw [q1] at this
          refine ⟨_, ?_, this⟩
          simp [Instr.indexAt, run_underlying hu, asIntOf, Instr.sureAddr, h0, hj.1, hsz, addr_add, hj.2.2]
        · cases h
      all_goals
        first
        | cases h; done
        | (rename_i xs
           simp only [Option.bind_eq_some_iff] at h
           obtain ⟨e, he, s, hs, y, hy, h⟩ := h
           split at h
           · rename_i hk
             injection h with h; subst h
             obtain ⟨_, hsz, _⟩ := tyS_spec (w := w) (b := s.1) (n := s.2) hs
             have hu := slcS_spec he
             have hlt : j.toNat < xs.length := (List.getElem?_eq_some_iff.1 hy).1
             rcases VR_slice rfl hx with ⟨a, c, rfl, rfl⟩ | ⟨b, off, c, k, vs, rfl, hc, hw, hkk, hcr, hcell⟩
             · simp at hlt
             · obtain ⟨q1, _, _⟩ := flats_part hy hw
               rw [sizes_take_const hkk (by omega)] at q1
               have hyk : y.size = k := hkk y (List.mem_of_getElem? hy)
               have := VR_elem_part (v := .arr xs.length k xs) (by simpa [V.flat] using hcr) (by simpa [V.flat] using hcell) (wfs_get hy hw) (pre := V.flats (xs.take j.toNat)) (post := V.flats (xs.drop (j.toNat + 1))) (by simp only [V.flat]; exact flats_take_drop hy)
               rw [q1] at this
               refine ⟨_, ?_, this⟩
               have hj : j < (xs.length : Int) := by omega
               simp [Instr.indexAt, run_underlying hu, asIntOf, h0, hj, hsz, addr_add, ← hk, hyk]
           · cases h)
    · cases h
  · cases h

/-! ### slicing -/
def evBnd (d : Nat) : Option V → Option Nat
  | none => some d
  | some (.int _ j) => if 0 ≤ j then some j.toNat else none
  | _ => none

def V.allSize (k : Nat) (xs : List V) : Prop := ∀ x ∈ xs, x.size = k

instance (k : Nat) (xs : List V) : Decidable (V.allSize k xs) := inferInstanceAs (Decidable (∀ x ∈ xs, x.size = k))

def evSlice (P : Program) (t : TypeId) (u : V) (lo hi : Option V) : Option V :=
  match u with
  | .str s => (evBnd 0 lo).bind fun l => (evBnd s.length hi).bind fun h => if isStrT P t ∧ l ≤ h ∧ h ≤ s.length then some (.str ((s.take h).drop l)) else none
  | .list xs | .own _ _ xs =>
    (slcS P t).bind fun e => (tyS P e).bind fun s => (evBnd 0 lo).bind fun l => (evBnd xs.length hi).bind fun h =>
      if l ≤ h ∧ h ≤ xs.length ∧ (l = 0 ∨ V.allSize s.2 xs) then some (.list ((xs.take h).drop l)) else none
  | .ptr o off p =>
    (arrS P t).bind fun a => (tyS P a.2).bind fun s => (evBnd 0 lo).bind fun l => (evBnd a.1 hi).bind fun h =>
      if l ≤ h ∧ h ≤ a.1 ∧ (l < a.1 ∨ l = 0) then some (.bsl o (off + l * s.2) p l (h - l)) else none
  | _ => none

theorem run_sliceBounds {isSlice : Bool} {len cap l h : Nat} {lo hi : Option V} {xlo xhi : Option Value}
    (hlo : ∀ u, lo = some u → ∃ x r, xlo = some x ∧ VR ρ K w u x r) (hlo0 : lo = none → xlo = none)
    (hhi : ∀ u, hi = some u → ∃ x r, xhi = some x ∧ VR ρ K w u x r) (hhi0 : hi = none → xhi = none)
    (hl : evBnd 0 lo = some l) (hh : evBnd len hi = some h) (h1 : l ≤ h) (h2 : h ≤ len) (h3 : len ≤ cap) :
    (Instr.sliceBounds isSlice len cap xlo xhi none).run P w = .ok (l, h, cap) w := by
  have e1 : (xlo = none ∧ l = 0) ∨ ∃ k j, xlo = some (.int k j) ∧ 0 ≤ j ∧ l = j.toNat := by
    cases lo with
    | none => exact .inl ⟨hlo0 rfl, by simpa [evBnd] using hl.symm⟩
    | some u =>
      obtain ⟨x, r, rfl, hv⟩ := hlo u rfl
      cases u <;> simp [evBnd] at hl
      obtain ⟨rfl, _⟩ := VR_int hv
      exact .inr ⟨_, _, rfl, hl.1, hl.2.symm⟩
  have e2 : (xhi = none ∧ h = len) ∨ ∃ k j, xhi = some (.int k j) ∧ 0 ≤ j ∧ h = j.toNat := by
    cases hi with
    | none => exact .inl ⟨hhi0 rfl, by simpa [evBnd] using hh.symm⟩
    | some u =>
      obtain ⟨x, r, rfl, hv⟩ := hhi u rfl
      cases u <;> simp [evBnd] at hh
      obtain ⟨rfl, _⟩ := VR_int hv
      exact .inr ⟨_, _, rfl, hh.1, hh.2.symm⟩
  rcases e1 with ⟨rfl, rfl⟩ | ⟨k, j, rfl, hj, rfl⟩ <;> rcases e2 with ⟨rfl, rfl⟩ | ⟨k', j', rfl, hj', rfl⟩
  · simp [Instr.sliceBounds]
  · rw [Instr.sliceBounds]
    simp only [Sem.run_bind, Sem.run_pure, Result.andThen_ok]
    rw [run_sliceBound _ _ _ _ _ hj' (by omega)]
    simp
  · rw [Instr.sliceBounds]
    simp only [Sem.run_bind, Sem.run_pure, Result.andThen_ok]
    rw [run_sliceBound _ _ _ _ _ hj (by omega)]
    simp
  · rw [Instr.sliceBounds]
    simp only [Sem.run_bind, Sem.run_pure, Result.andThen_ok]
    rw [run_sliceBound _ _ _ _ _ hj' (by omega)]
    simp only [Result.andThen_ok]
    rw [run_sliceBound _ _ _ _ _ hj (by omega)]
    simp

theorem flats_drop_take {xs : List V} {k l h : Nat} (hw : V.wfs xs) (hk : ∀ x ∈ xs, x.size = k) (h1 : l ≤ h) (h2 : h ≤ xs.length) :
    V.flats xs = V.flats (xs.take l) ++ (V.flats ((xs.take h).drop l) ++ V.flats (xs.drop h)) ∧ (V.flats (xs.take l)).length = l * k := by
  constructor
  · rw [← flats_append, ← flats_append]
    congr 1
    rw [← List.append_assoc]
    have : xs.take l ++ (xs.take h).drop l = xs.take h := by
      conv => rhs; rw [← List.take_append_drop l (xs.take h)]
      rw [List.take_take, Nat.min_eq_left h1]
    rw [this, List.take_append_drop]
  · rw [flats_length _ (wfs_take l hw), sizes_take_const hk (by omega)]

theorem slice_list_run {t e : TypeId} {u : V} {xs : List V} {s : Bool × Nat} {l h : Nat} {lo hi : Option V} {xlo xhi : Option Value} {x : Value} {rx : List Nat}
    (hu : u.elems? = some xs) (hx : VR ρ K w u x rx) (he : slcS P t = some e) (hs : tyS P e = some s) (hl : evBnd 0 lo = some l) (hh : evBnd xs.length hi = some h)
    (h1 : l ≤ h) (h2 : h ≤ xs.length) (h3 : l = 0 ∨ V.allSize s.2 xs)
    (hlo : ∀ u, lo = some u → ∃ x r, xlo = some x ∧ VR ρ K w u x r) (hlo0 : lo = none → xlo = none)
    (hhi : ∀ u, hi = some u → ∃ x r, xhi = some x ∧ VR ρ K w u x r) (hhi0 : hi = none → xhi = none) :
    ∃ z, (Instr.sliceAt t x xlo xhi none).run P w = .ok z w ∧ VR ρ K w (.list ((xs.take h).drop l)) z [] := by
  obtain ⟨_, hsz, _⟩ := tyS_spec (w := w) (b := s.1) (n := s.2) hs
  have hut := slcS_spec he
  have hut' : P.underlying t = some (.slice (P.elem t)) := by simp [Program.elem, hut]
  rcases VR_slice hu hx with ⟨a, c, rfl, rfl⟩ | ⟨b, off, c, k, vs, rfl, hc, hw, hkk, hcr, hcell⟩
  · obtain rfl : h = 0 := by simpa using h2
    obtain rfl : l = 0 := by omega
    have hbd := run_sliceBounds (P := P) (w := w) (ρ := ρ) (K := K) (isSlice := true) (cap := c) hlo hlo0 hhi hhi0 hl hh (Nat.le_refl _) (Nat.le_refl _) (Nat.zero_le _)
    refine ⟨_, ?_, VR.of_cell (by simpa using CR.list0 (if c = 0 then a else a.map (·.add 0)) c)⟩
    rw [run_sliceAt_slice _ _ _ _ _ _ hut']
    have hbd' : (Instr.sliceBounds true 0 c xlo xhi none).run P w = .ok (0, 0, c) w := by simpa using hbd
    simp [Instr.slice, run_underlying hut, hbd', hsz]
  · have hbd := run_sliceBounds (P := P) (w := w) (ρ := ρ) (K := K) (isSlice := true) (cap := c) hlo hlo0 hhi hhi0 hl hh h1 h2 hc
    have hrun : (Instr.sliceAt t (.slice (some ⟨b, off, none⟩) xs.length c) xlo xhi none).run P w = .ok (.slice (if c = l then some ⟨b, off, none⟩ else some ⟨b, off + l * s.2, none⟩) (h - l) (c - l)) w := by
      rw [run_sliceAt_slice _ _ _ _ _ _ hut']
      simp [Instr.slice, run_underlying hut, hbd, hsz, addr_add]
    refine ⟨_, hrun, VR.of_cell ?_⟩
    obtain ⟨q1, q2⟩ := flats_drop_take hw hkk h1 h2
    have hlen : ((xs.take h).drop l).length = h - l := by simp; omega
    by_cases h0 : h = l
    · subst h0
      have : (xs.take h).drop h = [] := List.drop_eq_nil_of_le (by simp; omega)
      rw [this, Nat.sub_self]
      exact .list0 _ _
    · have hcl : c ≠ l := by omega
      have hkl : l * s.2 = l * k := by
        rcases h3 with rfl | h3
        · simp
        · have : 0 < xs.length := by omega
          rw [← h3 xs[0] (by simp), ← hkk xs[0] (by simp)]
      rw [if_neg hcl, ← hlen, hkl]
      have hmem : ∀ y ∈ (xs.take h).drop l, y ∈ xs := fun y hy => List.mem_of_mem_take (List.mem_of_mem_drop hy)
      refine .list _ b (off + l * k) (c - l) k (fun i => vs (l * k + i)) (by omega) (wfs_iff.2 fun y hy => wfs_iff.1 hw y (hmem y hy)) (fun y hy => hkk y (hmem y hy)) (fun i u hu => hcr _ u ?_) fun i hi => ?_
      · rw [q1, List.getElem?_append_right (by omega), q2, Nat.add_sub_cancel_left, List.getElem?_append_left (List.getElem?_eq_some_iff.1 hu).1]; exact hu
      · have := hcell (l * k + i) (by rw [q1]; simp only [List.length_append]; omega)
        rw [← Nat.add_assoc] at this; exact this

theorem evSlice_run {t : TypeId} {u v : V} {lo hi : Option V} {xlo xhi : Option Value} {x : Value} {rx : List Nat} (h : evSlice P t u lo hi = some v) (hx : VR ρ K w u x rx)
    (hlo : ∀ u, lo = some u → ∃ x r, xlo = some x ∧ VR ρ K w u x r) (hlo0 : lo = none → xlo = none)
    (hhi : ∀ u, hi = some u → ∃ x r, xhi = some x ∧ VR ρ K w u x r) (hhi0 : hi = none → xhi = none) :
    ∃ z, (Instr.sliceAt t x xlo xhi none).run P w = .ok z w ∧ VR ρ K w v z [] := by
  unfold evSlice at h
  split at h
  · rename_i s
    simp only [Option.bind_eq_some_iff] at h
    obtain ⟨l, hl, hh, hhh, h⟩ := h
    split at h
    · rename_i hc
      injection h with h; subst h
      obtain ⟨rfl, _⟩ := VR_str hx
      have hu := isStrT_spec hc.1
      refine ⟨.string ⟨((s.take hh).drop l).toArray⟩, ?_, VR_mkStr _⟩
      rw [run_sliceAt_string _ _ _ _ _ _ hu]
      have hsz : (ByteArray.mk s.toArray).size = s.length := by simp [ByteArray.size]
      have hb := run_sliceBounds (P := P) (w := w) (ρ := ρ) (K := K) (isSlice := false) hlo hlo0 hhi hhi0 hl hhh hc.2.1 hc.2.2 (Nat.le_refl _)
      simp only [Instr.slice, Sem.run_bind, run_underlying hu, Result.andThen_ok, Option.isSome_none, Bool.false_eq_true, if_false, Sem.run_pure, hsz, hb]
      congr 2
      apply ByteArray.ext
      simp [List.drop_take]
    · cases h
  · simp only [Option.bind_eq_some_iff] at h
    obtain ⟨e, he, s, hs, l, hl, hh, hhh, h⟩ := h
    split at h
    · rename_i hc
      injection h with h; subst h
      exact slice_list_run rfl hx he hs hl hhh hc.1 hc.2.1 hc.2.2 hlo hlo0 hhi hhi0
    · cases h
  · simp only [Option.bind_eq_some_iff] at h
    obtain ⟨e, he, s, hs, l, hl, hh, hhh, h⟩ := h
    split at h
    · rename_i hc
      injection h with h; subst h
      exact slice_list_run rfl hx he hs hl hhh hc.1 hc.2.1 hc.2.2 hlo hlo0 hhi hhi0
    · cases h
  · rename_i o off p
    simp only [Option.bind_eq_some_iff] at h
    obtain ⟨a, ha, s, hs, l, hl, hh, hhh, h⟩ := h
    split at h
    · rename_i hc
      injection h with h; subst h
      obtain ⟨b, hb, rfl, _⟩ := VR_ptr hx
      obtain ⟨_, hsz, _⟩ := tyS_spec (w := w) (b := s.1) (n := s.2) hs
      have hu := arrS_spec (n := a.1) (e := a.2) ha
      have hbd := run_sliceBounds (P := P) (w := w) (ρ := ρ) (K := K) (isSlice := false) hlo hlo0 hhi hhi0 hl hhh hc.1 hc.2.1 (Nat.le_refl _)
      refine ⟨_, ?_, VR.of_cell (.bsl o (off + l * s.2) p l (hh - l) (a.1 - l) b (by omega) hb)⟩
      simp only [Instr.sliceAt, Sem.run_bind, run_underlying hu, Result.andThen_ok, Instr.sureAddr, Sem.run_pure, hbd, hsz]
      congr 3
      split
      · rename_i hal
        have : l = 0 := by omega
        subst this; simp
      · exact addr_add _ _ _
    · cases h
  · cases h

end
end Go.AL
