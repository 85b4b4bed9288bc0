import Derived.WalkKit
namespace Go.AL
open Go.RowKit

/-! ### Values -/
inductive V where
  | bool (b : Bool)
  | int (k : IntKind) (n : Int)
  | flt (k : FloatKind) (bits : Nat)
  | str (s : List UInt8)
  | nilp | nilf | nili | nilm
  | agg (fs : List V)
  | arr (n k : Nat) (xs : List V)
  | list (xs : List V)
  | own (e k : Nat) (xs : List V)
  | ptr (o off : Nat) (p : List Nat)
  | bsl (o off : Nat) (p : List Nat) (lo len : Nat)
  | elem (v : V)
  | fn (f : FuncId) (cs : List V)
  | mp (o : Nat)
  | tup (vs : List V)
  | dead
  deriving Inhabited

mutual
def V.flat : V → List V
  | .agg fs => V.flats fs
  | .arr _ _ xs => V.flats xs
  | v => [v]
def V.flats : List V → List V
  | [] => []
  | v :: vs => v.flat ++ V.flats vs
end
mutual
def V.size : V → Nat
  | .agg fs => V.sizes fs
  | .arr n k _ => n * k
  | _ => 1
def V.sizes : List V → Nat
  | [] => 0
  | v :: vs => v.size + V.sizes vs
end
mutual
def V.wf : V → Prop
  | .agg fs => V.wfs fs
  | .arr n k xs => xs.length = n ∧ V.wfs xs ∧ ∀ x ∈ xs, x.size = k
  | _ => True
def V.wfs : List V → Prop
  | [] => True
  | v :: vs => v.wf ∧ V.wfs vs
end
mutual
def V.view : V → V
  | .agg fs => .agg (V.views fs)
  | .arr n k xs => .arr n k (V.views xs)
  | .own e k xs => if k = 0 then .own e k xs else .list xs
  | .tup vs => .tup (V.views vs)
  | v => v
def V.views : List V → List V
  | [] => []
  | v :: vs => v.view :: V.views vs
end
mutual
def V.data : V → Bool
  | .agg fs => V.datas fs
  | .arr _ _ xs => V.datas xs
  | .list xs => V.datas xs
  | .elem v => v.data
  | .own _ _ _ | .ptr _ _ _ | .bsl _ _ _ _ _ | .fn _ _ | .mp _ | .tup _ | .dead => false
  | _ => true
def V.datas : List V → Bool
  | [] => true
  | v :: vs => v.data && V.datas vs
end
mutual
/-- all objects that it names come ahead of n -/
def V.ahead (n : Nat) : V → Bool
  | .agg fs => V.aheads n fs
  | .arr _ _ xs => V.aheads n xs
  | .list xs => V.aheads n xs
  | .own _ _ xs => V.aheads n xs
  | .elem v => v.ahead n
  | .fn _ cs => V.aheads n cs
  | .tup vs => V.aheads n vs
  | .ptr o _ _ => decide (o < n)
  | .bsl o _ _ _ _ => decide (o < n)
  | .mp o => decide (o < n)
  | _ => true
def V.aheads (n : Nat) : List V → Bool
  | [] => true
  | v :: vs => v.ahead n && V.aheads n vs
end

/-- a float that is no number, whose bits are not known -/
abbrev nanMark : Nat := 18446744073709551616

def V.isAgg : V → Bool
  | .agg _ | .arr _ _ _ => true
  | _ => false

theorem flats_append (a b : List V) : V.flats (a ++ b) = V.flats a ++ V.flats b := by
  induction a with
  | nil => simp [V.flats]
  | cons x a ih => simp [V.flats, ih, List.append_assoc]

theorem sizes_append (a b : List V) : V.sizes (a ++ b) = V.sizes a + V.sizes b := by
  induction a with
  | nil => simp [V.sizes]
  | cons x a ih => simp [V.sizes, ih, Nat.add_assoc]

theorem wfs_iff {xs : List V} : V.wfs xs ↔ ∀ x ∈ xs, x.wf := by
  induction xs with
  | nil => simp [V.wfs]
  | cons x a ih => simp [V.wfs, ih]

theorem wfs_append {a b : List V} : V.wfs (a ++ b) ↔ V.wfs a ∧ V.wfs b := by
  simp only [wfs_iff, List.mem_append]
  exact ⟨fun h => ⟨fun x hx => h x (.inl hx), fun x hx => h x (.inr hx)⟩, fun h x hx => hx.elim (h.1 x) (h.2 x)⟩

theorem sizes_const {xs : List V} {k : Nat} (h : ∀ x ∈ xs, x.size = k) : V.sizes xs = xs.length * k := by
  induction xs with
  | nil => simp [V.sizes]
  | cons x a ih =>
    simp only [V.sizes, List.length_cons, Nat.add_mul, Nat.one_mul]
    rw [ih (fun y hy => h y (by simp [hy])), h x (by simp)]; omega

mutual
theorem flat_length : ∀ (v : V), v.wf → v.flat.length = v.size
  | .agg fs, h => by simp only [V.flat, V.size]; exact flats_length fs (by simpa [V.wf] using h)
  | .arr n k xs, h => by
    simp only [V.wf] at h
    simp only [V.flat, V.size]
    rw [flats_length xs h.2.1, sizes_const h.2.2, h.1]
  | .own _ _ _, _ => by simp [V.flat, V.size]
  | .bool _, _ | .int _ _, _ | .flt _ _, _ | .str _, _ | .nilp, _ | .nilf, _ | .nili, _ | .nilm, _ | .list _, _
  | .ptr _ _ _, _ | .bsl _ _ _ _ _, _ | .elem _, _ | .fn _ _, _ | .mp _, _ | .tup _, _ | .dead, _ => by simp [V.flat, V.size]
theorem flats_length : ∀ (vs : List V), V.wfs vs → (V.flats vs).length = V.sizes vs
  | [], _ => by simp [V.flats, V.sizes]
  | v :: vs, h => by
    simp only [V.wfs] at h
    simp only [V.flats, V.sizes, List.length_append, flat_length v h.1, flats_length vs h.2]
end

mutual
theorem size_view : ∀ (v : V), v.view.size = v.size
  | .agg fs => by simp only [V.view, V.size]; exact sizes_views fs
  | .own e k xs => by simp only [V.view]; split <;> simp [V.size]
  | .arr _ _ _ | .bool _ | .int _ _ | .flt _ _ | .str _ | .nilp | .nilf | .nili | .nilm | .list _
  | .ptr _ _ _ | .bsl _ _ _ _ _ | .elem _ | .fn _ _ | .mp _ | .tup _ | .dead => by simp [V.view, V.size]
theorem sizes_views : ∀ (vs : List V), V.sizes (V.views vs) = V.sizes vs
  | [] => by simp [V.views, V.sizes]
  | v :: vs => by simp only [V.views, V.sizes, size_view v, sizes_views vs]
end

theorem views_map (vs : List V) : V.views vs = vs.map V.view := by
  induction vs with
  | nil => simp [V.views]
  | cons v vs ih => simp [V.views, ih]

mutual
theorem wf_view : ∀ (v : V), v.wf → v.view.wf
  | .agg fs, h => by simp only [V.view, V.wf] at *; exact wfs_views fs h
  | .arr n k xs, h => by
    simp only [V.view, V.wf] at *
    refine ⟨by simp [views_map, h.1], wfs_views xs h.2.1, fun x hx => ?_⟩
    simp only [views_map, List.mem_map] at hx
    obtain ⟨y, hy, rfl⟩ := hx
    rw [size_view]; exact h.2.2 y hy
  | .own e k xs, _ => by simp only [V.view]; split <;> simp [V.wf]
  | .bool _, _ | .int _ _, _ | .flt _ _, _ | .str _, _ | .nilp, _ | .nilf, _ | .nili, _ | .nilm, _ | .list _, _
  | .ptr _ _ _, _ | .bsl _ _ _ _ _, _ | .elem _, _ | .fn _ _, _ | .mp _, _ | .tup _, _ | .dead, _ => by simp [V.view, V.wf]
theorem wfs_views : ∀ (vs : List V), V.wfs vs → V.wfs (V.views vs)
  | [], _ => by simp [V.views, V.wfs]
  | v :: vs, h => by
    simp only [V.views, V.wfs] at *
    exact ⟨wf_view v h.1, wfs_views vs h.2⟩
end

mutual
theorem flat_view : ∀ (v : V), v.view.flat = v.flat.map V.view
  | .agg fs => by simp only [V.view, V.flat]; exact flats_views fs
  | .arr n k xs => by simp only [V.view, V.flat]; exact flats_views xs
  | .own e k xs => by simp only [V.view, V.flat, List.map_cons, List.map_nil]; split <;> simp [V.flat]
  | .bool _ | .int _ _ | .flt _ _ | .str _ | .nilp | .nilf | .nili | .nilm | .list _
  | .ptr _ _ _ | .bsl _ _ _ _ _ | .elem _ | .fn _ _ | .mp _ | .tup _ | .dead => by simp [V.view, V.flat]
theorem flats_views : ∀ (vs : List V), V.flats (V.views vs) = (V.flats vs).map V.view
  | [] => by simp [V.views, V.flats]
  | v :: vs => by simp only [V.views, V.flats, flat_view v, flats_views vs, List.map_append]
end

mutual
theorem view_data : ∀ (v : V), v.data = true → v.view = v
  | .agg fs, h => by simp only [V.view, V.data] at *; rw [views_datas fs h]
  | .arr n k xs, h => by simp only [V.view, V.data] at *; rw [views_datas xs h]
  | .own _ _ _, h => by simp [V.data] at h
  | .tup _, h => by simp [V.data] at h
  | .bool _, _ | .int _ _, _ | .flt _ _, _ | .str _, _ | .nilp, _ | .nilf, _ | .nili, _ | .nilm, _ | .list _, _
  | .ptr _ _ _, _ | .bsl _ _ _ _ _, _ | .elem _, _ | .fn _ _, _ | .mp _, _ | .dead, _ => by simp [V.view]
theorem views_datas : ∀ (vs : List V), V.datas vs = true → V.views vs = vs
  | [], _ => by simp [V.views]
  | v :: vs, h => by
    simp only [V.datas, Bool.and_eq_true] at h
    simp only [V.views, view_data v h.1, views_datas vs h.2]
end

mutual
theorem ahead_data (n : Nat) : ∀ (v : V), v.data = true → v.ahead n = true
  | .agg fs, h => by simp only [V.ahead, V.data] at *; exact aheads_datas n fs h
  | .arr _ _ xs, h => by simp only [V.ahead, V.data] at *; exact aheads_datas n xs h
  | .list xs, h => by simp only [V.ahead, V.data] at *; exact aheads_datas n xs h
  | .elem v, h => by simp only [V.ahead, V.data] at *; exact ahead_data n v h
  | .own _ _ _, h => by simp [V.data] at h
  | .tup _, h => by simp [V.data] at h
  | .fn _ _, h => by simp [V.data] at h
  | .ptr _ _ _, h => by simp [V.data] at h
  | .bsl _ _ _ _ _, h => by simp [V.data] at h
  | .mp _, h => by simp [V.data] at h
  | .bool _, _ | .int _ _, _ | .flt _ _, _ | .str _, _ | .nilp, _ | .nilf, _ | .nili, _ | .nilm, _ | .dead, _ => by simp [V.ahead]
theorem aheads_datas (n : Nat) : ∀ (vs : List V), V.datas vs = true → V.aheads n vs = true
  | [], _ => by simp [V.aheads]
  | v :: vs, h => by
    simp only [V.datas, Bool.and_eq_true] at h
    simp only [V.aheads, ahead_data n v h.1, aheads_datas n vs h.2, Bool.and_true]
end

mutual
theorem ahead_view (n : Nat) : ∀ (v : V), v.view.ahead n = v.ahead n
  | .agg fs => by simp only [V.view, V.ahead]; exact aheads_views n fs
  | .arr _ _ xs => by simp only [V.view, V.ahead]; exact aheads_views n xs
  | .tup xs => by simp only [V.view, V.ahead]; exact aheads_views n xs
  | .own e k xs => by simp only [V.view]; split <;> simp [V.ahead]
  | .list _ | .elem _ | .fn _ _ | .ptr _ _ _ | .bsl _ _ _ _ _ | .mp _ | .bool _ | .int _ _ | .flt _ _ | .str _ | .nilp | .nilf | .nili | .nilm | .dead => by simp [V.view]
theorem aheads_views (n : Nat) : ∀ (vs : List V), V.aheads n (V.views vs) = V.aheads n vs
  | [] => by simp [V.views]
  | v :: vs => by simp only [V.views, V.aheads, ahead_view n v, aheads_views n vs]
end

theorem datas_iff {xs : List V} : V.datas xs = true ↔ ∀ x ∈ xs, x.data = true := by
  induction xs with
  | nil => simp [V.datas]
  | cons x a ih => simp [V.datas, ih]

theorem aheads_iff {n : Nat} {xs : List V} : V.aheads n xs = true ↔ ∀ x ∈ xs, x.ahead n = true := by
  induction xs with
  | nil => simp [V.aheads]
  | cons x a ih => simp [V.aheads, ih]

mutual
theorem ahead_flat (n : Nat) : ∀ (v : V), v.ahead n = true → ∀ u ∈ v.flat, u.ahead n = true
  | .agg fs, h => by simp only [V.ahead, V.flat] at *; exact ahead_flats n fs h
  | .arr _ _ xs, h => by simp only [V.ahead, V.flat] at *; exact ahead_flats n xs h
  | .tup _, h | .own _ _ _, h | .list _, h | .elem _, h | .fn _ _, h | .ptr _ _ _, h | .bsl _ _ _ _ _, h | .mp _, h | .bool _, h | .int _ _, h | .flt _ _, h
  | .str _, h | .nilp, h | .nilf, h | .nili, h | .nilm, h | .dead, h => by
    intro u hu; simp only [V.flat, List.mem_singleton] at hu; subst hu; exact h
theorem ahead_flats (n : Nat) : ∀ (vs : List V), V.aheads n vs = true → ∀ u ∈ V.flats vs, u.ahead n = true
  | [], _ => by simp [V.flats]
  | v :: vs, h => by
    simp only [V.aheads, Bool.and_eq_true] at h
    intro u hu
    simp only [V.flats, List.mem_append] at hu
    exact hu.elim (ahead_flat n v h.1 u) (ahead_flats n vs h.2 u)
end

mutual
theorem ahead_mono {n m : Nat} (hnm : n ≤ m) : ∀ (v : V), v.ahead n = true → v.ahead m = true
  | .agg fs, h => by simp only [V.ahead] at *; exact aheads_mono hnm fs h
  | .arr _ _ xs, h => by simp only [V.ahead] at *; exact aheads_mono hnm xs h
  | .list xs, h => by simp only [V.ahead] at *; exact aheads_mono hnm xs h
  | .own _ _ xs, h => by simp only [V.ahead] at *; exact aheads_mono hnm xs h
  | .elem v, h => by simp only [V.ahead] at *; exact ahead_mono hnm v h
  | .fn _ xs, h => by simp only [V.ahead] at *; exact aheads_mono hnm xs h
  | .tup xs, h => by simp only [V.ahead] at *; exact aheads_mono hnm xs h
  | .ptr _ _ _, h => by simp only [V.ahead, decide_eq_true_eq] at *; omega
  | .bsl _ _ _ _ _, h => by simp only [V.ahead, decide_eq_true_eq] at *; omega
  | .mp _, h => by simp only [V.ahead, decide_eq_true_eq] at *; omega
  | .bool _, _ | .int _ _, _ | .flt _ _, _ | .str _, _ | .nilp, _ | .nilf, _ | .nili, _ | .nilm, _ | .dead, _ => by simp [V.ahead]
theorem aheads_mono {n m : Nat} (hnm : n ≤ m) : ∀ (vs : List V), V.aheads n vs = true → V.aheads m vs = true
  | [], _ => by simp [V.aheads]
  | v :: vs, h => by
    simp only [V.aheads, Bool.and_eq_true] at *
    exact ⟨ahead_mono hnm v h.1, aheads_mono hnm vs h.2⟩
end

/-! ### What a value stands for in memory -/
/-- one cell. ρ: the blocks of the objects; K b: how many cells of block b will never change; the last list: the rows that it owns. -/
inductive CR (ρ : List Nat) (K : Nat → Nat) (w : World) : V → Value → List Nat → Prop
  | bool (b : Bool) : CR ρ K w (.bool b) (.bool b) []
  | int (k : IntKind) (n : Int) : CR ρ K w (.int k n) (.int k n) []
  | flt (k : FloatKind) (n : Nat) (hn : n ≠ 18446744073709551616) : CR ρ K w (.flt k n) (.float k n) []
  | nan (k : FloatKind) (b : Nat) (h : (k.decode b).isNaN = true) : CR ρ K w (.flt k 18446744073709551616) (.float k b) []
  | str (s : List UInt8) : CR ρ K w (.str s) (.string ⟨s.toArray⟩) []
  | nilp : CR ρ K w .nilp (.pointer none) []
  | nilf : CR ρ K w .nilf .nilFunc []
  | nili : CR ρ K w .nili .nilIface []
  | nilm : CR ρ K w .nilm (.map none) []
  | ptr (o off : Nat) (p : List Nat) (b : Nat) (h : ρ[o]? = some b) : CR ρ K w (.ptr o off p) (.pointer (some ⟨b, off, none⟩)) []
  | bsl (o off : Nat) (p : List Nat) (lo len c b : Nat) (hc : len ≤ c) (h : ρ[o]? = some b) : CR ρ K w (.bsl o off p lo len) (.slice (some ⟨b, off, none⟩) len c) []
  | mp (o b : Nat) (h : ρ[o]? = some b) : CR ρ K w (.mp o) (.map (some b)) []
  | fn (f : FuncId) (cs : List V) (vs : List Value) (hl : vs.length = cs.length) (hv : ∀ i c, cs[i]? = some c → CR ρ K w c (vs.getD i undef) []) :
      CR ρ K w (.fn f cs) (.func (.func f) #[] vs.toArray) []
  | list0 (a : Option Addr) (c : Nat) : CR ρ K w (.list []) (.slice a 0 c) []
  | list (xs : List V) (b off c k : Nat) (vs : Nat → Value) (hc : xs.length ≤ c) (hw : V.wfs xs) (hk : ∀ x ∈ xs, x.size = k)
      (hv : ∀ i u, (V.flats xs)[i]? = some u → CR ρ K w u (vs i) [])
      (hs : ∀ i, i < (V.flats xs).length → w.cell? ⟨b, off + i, none⟩ = some (vs i) ∧ off + i < K b) :
      CR ρ K w (.list xs) (.slice (some ⟨b, off, none⟩) xs.length c) []
  | own0 (e k : Nat) : CR ρ K w (.own e k []) (.slice none 0 0) []
  | own (xs : List V) (b c k : Nat) (vs : Nat → Value) (cells : Array Value) (e : TypeId) (h0 : 0 < k) (hc : xs.length ≤ c) (hm : c ≤ maxLen) (hw : V.wfs xs) (hk : ∀ x ∈ xs, x.size = k)
      (hv : ∀ i u, (V.flats xs)[i]? = some u → CR ρ K w u (vs i) [])
      (hb : w.heap[b]? = some (.cells cells e (0, 0))) (hs : ∀ i, i < (V.flats xs).length → cells[i]? = some (vs i)) (hcap : cells.size = c * k)
      (hK : K b = (V.flats xs).length) : CR ρ K w (.own e k xs) (.slice (some ⟨b, 0, none⟩) xs.length c) [b]
  | elem (v : V) (b off : Nat) (vs : Nat → Value) (hw : v.wf)
      (hv : ∀ i u, v.flat[i]? = some u → CR ρ K w u (vs i) [])
      (hs : ∀ i, i < v.flat.length → w.cell? ⟨b, off + i, none⟩ = some (vs i) ∧ off + i < K b) :
      CR ρ K w (.elem v) (.pointer (some ⟨b, off, none⟩)) []

def CRs (ρ : List Nat) (K : Nat → Nat) (w : World) : List V → List Value → List Nat → Prop
  | [], [], r => r = []
  | v :: vs, c :: cs, r => ∃ r1 r2, r = r1 ++ r2 ∧ CR ρ K w v c r1 ∧ CRs ρ K w vs cs r2
  | _, _, _ => False

section
variable {ρ ρ' : List Nat} {K K' : Nat → Nat} {w w' : World}

theorem CR.mono (hρ : ∀ (i b : Nat), ρ[i]? = some b → ρ'[i]? = some b)
    (hst : ∀ b off, off < K b → w'.cell? ⟨b, off, none⟩ = w.cell? ⟨b, off, none⟩) (hK : ∀ b, K b ≤ K' b)
    {v : V} {c : Value} {r : List Nat} (h : CR ρ K w v c r) (hr : ∀ b ∈ r, w'.heap[b]? = w.heap[b]? ∧ K' b = K b) : CR ρ' K' w' v c r := by
  induction h with
  | bool b => exact .bool b
  | int k n => exact .int k n
  | flt k n hn => exact .flt k n hn
  | nan k b h => exact .nan k b h
  | str s => exact .str s
  | nilp => exact .nilp
  | nilf => exact .nilf
  | nili => exact .nili
  | nilm => exact .nilm
  | ptr o off p b h => exact .ptr o off p b (hρ _ _ h)
  | bsl o off p lo len c b hc h => exact .bsl o off p lo len c b hc (hρ _ _ h)
  | mp o b h => exact .mp o b (hρ _ _ h)
  | fn f cs vs hl hv ih => exact .fn f cs vs hl fun i c hc => ih i c hc (by simp)
  | list0 a c => exact .list0 a c
  | list xs b off c k vs hc hw hk hv hs ih =>
    refine .list xs b off c k vs hc hw hk (fun i u hu => ih i u hu (by simp)) fun i hi => ?_
    obtain ⟨h1, h2⟩ := hs i hi
    exact ⟨(hst b _ h2).trans h1, Nat.lt_of_lt_of_le h2 (hK b)⟩
  | own0 e k => exact .own0 e k
  | own xs b c k vs cells e h0 hc hm hw hk hv hb hs hcap hKb ih =>
    obtain ⟨h1, h2⟩ := hr b (by simp)
    exact .own xs b c k vs cells e h0 hc hm hw hk (fun i u hu => ih i u hu (by simp)) (h1.trans hb) hs hcap (h2.trans hKb)
  | elem v b off vs hw hv hs ih =>
    refine .elem v b off vs hw (fun i u hu => ih i u hu (by simp)) fun i hi => ?_
    obtain ⟨h1, h2⟩ := hs i hi
    exact ⟨(hst b _ h2).trans h1, Nat.lt_of_lt_of_le h2 (hK b)⟩

/-- what it names lies ahead of n: the objects from n on may go -/
theorem CR.keep {n : Nat} (hρ : ∀ (i b : Nat), i < n → ρ[i]? = some b → ρ'[i]? = some b) {v : V} {c : Value} {r : List Nat} (h : CR ρ K w v c r) (hb : v.ahead n = true) :
    CR ρ' K w v c r := by
  induction h with
  | bool b => exact .bool b
  | int k n => exact .int k n
  | flt k n hn => exact .flt k n hn
  | nan k b h => exact .nan k b h
  | str s => exact .str s
  | nilp => exact .nilp
  | nilf => exact .nilf
  | nili => exact .nili
  | nilm => exact .nilm
  | ptr o off p b h => exact .ptr o off p b (hρ _ _ (by simpa [V.ahead] using hb) h)
  | bsl o off p lo len c b hc h => exact .bsl o off p lo len c b hc (hρ _ _ (by simpa [V.ahead] using hb) h)
  | mp o b h => exact .mp o b (hρ _ _ (by simpa [V.ahead] using hb) h)
  | fn f cs vs hl hv ih =>
    refine .fn f cs vs hl fun i c hc => ih i c hc ?_
    simp only [V.ahead] at hb
    exact aheads_iff.1 hb c (List.mem_of_getElem? hc)
  | list0 a c => exact .list0 a c
  | list xs b off c k vs hc hw hk hv hs ih =>
    simp only [V.ahead] at hb
    exact .list xs b off c k vs hc hw hk (fun i u hu => ih i u hu (ahead_flats n xs hb u (List.mem_of_getElem? hu))) hs
  | own0 e k => exact .own0 e k
  | own xs b c k vs cells e h0 hc hm hw hk hv hb' hs hcap hKb ih =>
    simp only [V.ahead] at hb
    exact .own xs b c k vs cells e h0 hc hm hw hk (fun i u hu => ih i u hu (ahead_flats n xs hb u (List.mem_of_getElem? hu))) hb' hs hcap hKb
  | elem v b off vs hw hv hs ih =>
    simp only [V.ahead] at hb
    exact .elem v b off vs hw (fun i u hu => ih i u hu (ahead_flat n v hb u (List.mem_of_getElem? hu))) hs

theorem cell?_of_cells {w : World} {b i : Nat} {cells : Array Value} {e : TypeId} {fr : Nat × Nat} (h : w.heap[b]? = some (.cells cells e fr)) : w.cell? ⟨b, i, none⟩ = cells[i]? := by
  simp [World.cell?, h]

theorem CR.view {v : V} {c : Value} {r : List Nat} (h : CR ρ K w v c r) : CR ρ K w v.view c [] := by
  cases h with
  | bool b => exact .bool b
  | int k n => exact .int k n
  | flt k n hn => exact .flt k n hn
  | nan k b h => exact .nan k b h
  | str s => exact .str s
  | nilp => exact .nilp
  | nilf => exact .nilf
  | nili => exact .nili
  | nilm => exact .nilm
  | ptr o off p b h => exact .ptr o off p b h
  | bsl o off p lo len c b hc h => exact .bsl o off p lo len c b hc h
  | mp o b h => exact .mp o b h
  | fn f cs vs hl hv => exact .fn f cs vs hl hv
  | list0 a c => exact .list0 a c
  | list xs b off c k vs hc hw hk hv hs => exact .list xs b off c k vs hc hw hk hv hs
  | own0 e k =>
    simp only [V.view]
    split
    · exact .own0 _ _
    · exact .list0 none 0
  | own xs b c k vs cells e h0 hc hm hw hk hv hb' hs hcap hKb =>
    simp only [V.view, if_neg (Nat.ne_of_gt h0)]
    refine .list xs b 0 c k vs hc hw hk hv fun i hi => ?_
    rw [Nat.zero_add, cell?_of_cells hb', hKb]
    exact ⟨hs i hi, hi⟩
  | elem v b off vs hw hv hs => exact .elem v b off vs hw hv hs

theorem CR.oneCell {v : V} {c : Value} {r : List Nat} (h : CR ρ K w v c r) : c.oneCell' = true := by
  cases h <;> rfl

theorem CR.cells {v : V} {c : Value} {r : List Nat} (h : CR ρ K w v c r) : c.cells = #[c] := by
  cases h <;> rfl

theorem CR.rows {v : V} {c : Value} {r : List Nat} (h : CR ρ K w v c r) : r = [] ∨ ∃ b e k xs, r = [b] ∧ v = .own e k xs ∧ b < w.heap.size ∧ K b = (V.flats xs).length := by
  cases h <;> first
    | exact .inl rfl
    | (rename_i xs b c k vs cells e h0 hc hm hw hk hv hb' hs hcap hKb
       refine .inr ⟨b, e, k, xs, rfl, rfl, ?_, hKb⟩
       rcases Nat.lt_or_ge b w.heap.size with h | h
       · exact h
       · simp [Array.getElem?_eq_none h] at hb')

theorem CR.nodup {v : V} {c : Value} {r : List Nat} (h : CR ρ K w v c r) : r.Nodup := by
  rcases h.rows with rfl | ⟨b, _, _, _, rfl, _⟩ <;> simp

theorem CR.data_rows {v : V} {c : Value} {r : List Nat} (h : CR ρ K w v c r) (hd : v.data = true) : r = [] := by
  rcases h.rows with rfl | ⟨b, e, k, xs, rfl, rfl, _⟩
  · rfl
  · simp [V.data] at hd

/-! ### lists of cells -/
theorem CRs.length {vs : List V} {cs : List Value} {r : List Nat} (h : CRs ρ K w vs cs r) : cs.length = vs.length := by
  induction vs generalizing cs r with
  | nil => cases cs <;> simp_all [CRs]
  | cons v vs ih =>
    cases cs with
    | nil => simp [CRs] at h
    | cons c cs => obtain ⟨r1, r2, _, _, h2⟩ := h; simp [ih h2]

theorem CRs.append {vs us : List V} {cs ds : List Value} {r s : List Nat} (h : CRs ρ K w vs cs r) (h' : CRs ρ K w us ds s) : CRs ρ K w (vs ++ us) (cs ++ ds) (r ++ s) := by
  induction vs generalizing cs r with
  | nil => cases cs <;> simp_all [CRs]
  | cons v vs ih =>
    cases cs with
    | nil => simp [CRs] at h
    | cons c cs =>
      obtain ⟨r1, r2, rfl, h1, h2⟩ := h
      exact ⟨r1, r2 ++ s, by simp, h1, ih h2⟩

theorem CRs.split {vs us : List V} {cs : List Value} {r : List Nat} (h : CRs ρ K w (vs ++ us) cs r) :
    ∃ r1 r2, r = r1 ++ r2 ∧ CRs ρ K w vs (cs.take vs.length) r1 ∧ CRs ρ K w us (cs.drop vs.length) r2 := by
  induction vs generalizing cs r with
  | nil => exact ⟨[], r, rfl, by simp [CRs], by simpa using h⟩
  | cons v vs ih =>
    cases cs with
    | nil => simp [CRs] at h
    | cons c cs =>
      obtain ⟨r1, r2, rfl, h1, h2⟩ := h
      obtain ⟨s1, s2, rfl, g1, g2⟩ := ih h2
      exact ⟨r1 ++ s1, s2, by simp, ⟨r1, s1, rfl, h1, by simpa using g1⟩, by simpa using g2⟩

theorem CRs.mono (hρ : ∀ (i b : Nat), ρ[i]? = some b → ρ'[i]? = some b)
    (hst : ∀ b off, off < K b → w'.cell? ⟨b, off, none⟩ = w.cell? ⟨b, off, none⟩) (hK : ∀ b, K b ≤ K' b)
    {vs : List V} {cs : List Value} {r : List Nat} (h : CRs ρ K w vs cs r) (hr : ∀ b ∈ r, w'.heap[b]? = w.heap[b]? ∧ K' b = K b) : CRs ρ' K' w' vs cs r := by
  induction vs generalizing cs r with
  | nil => cases cs <;> simp_all [CRs]
  | cons v vs ih =>
    cases cs with
    | nil => simp [CRs] at h
    | cons c cs =>
      obtain ⟨r1, r2, rfl, h1, h2⟩ := h
      exact ⟨r1, r2, rfl, h1.mono hρ hst hK (fun b hb => hr b (by simp [hb])), ih h2 (fun b hb => hr b (by simp [hb]))⟩

theorem CRs.keep {n : Nat} (hρ : ∀ (i b : Nat), i < n → ρ[i]? = some b → ρ'[i]? = some b) {vs : List V} {cs : List Value} {r : List Nat} (h : CRs ρ K w vs cs r)
    (hb : ∀ v ∈ vs, v.ahead n = true) : CRs ρ' K w vs cs r := by
  induction vs generalizing cs r with
  | nil => cases cs <;> simp_all [CRs]
  | cons v vs ih =>
    cases cs with
    | nil => simp [CRs] at h
    | cons c cs =>
      obtain ⟨r1, r2, rfl, h1, h2⟩ := h
      exact ⟨r1, r2, rfl, h1.keep hρ (hb v (by simp)), ih h2 (fun x hx => hb x (by simp [hx]))⟩

theorem CRs.view {vs : List V} {cs : List Value} {r : List Nat} (h : CRs ρ K w vs cs r) : CRs ρ K w (vs.map V.view) cs [] := by
  induction vs generalizing cs r with
  | nil => cases cs <;> simp_all [CRs]
  | cons v vs ih =>
    cases cs with
    | nil => simp [CRs] at h
    | cons c cs =>
      obtain ⟨r1, r2, rfl, h1, h2⟩ := h
      exact ⟨[], [], rfl, h1.view, ih h2⟩

theorem CRs.nil_iff {vs : List V} {cs : List Value} : CRs ρ K w vs cs [] ↔ cs.length = vs.length ∧ ∀ i u, vs[i]? = some u → CR ρ K w u (cs.getD i undef) [] := by
  induction vs generalizing cs with
  | nil => cases cs <;> simp [CRs]
  | cons v vs ih =>
    cases cs with
    | nil => simp [CRs]
    | cons c cs =>
      constructor
      · rintro ⟨r1, r2, h, h1, h2⟩
        have := List.append_eq_nil_iff.1 h.symm
        obtain ⟨rfl, rfl⟩ := this
        obtain ⟨hl, hv⟩ := ih.1 h2
        refine ⟨by simp [hl], fun i u hu => ?_⟩
        cases i with
        | zero => simp at hu; subst hu; simpa using h1
        | succ i => simpa using hv i u (by simpa using hu)
      · rintro ⟨hl, hv⟩
        refine ⟨[], [], rfl, by simpa using hv 0 v rfl, ih.2 ⟨by simpa using hl, fun i u hu => ?_⟩⟩
        simpa using hv (i + 1) u (by simpa using hu)

theorem CRs.data_rows {vs : List V} {cs : List Value} {r : List Nat} (h : CRs ρ K w vs cs r) (hd : ∀ v ∈ vs, v.data = true) : r = [] := by
  induction vs generalizing cs r with
  | nil => cases cs <;> simp_all [CRs]
  | cons v vs ih =>
    cases cs with
    | nil => simp [CRs] at h
    | cons c cs =>
      obtain ⟨r1, r2, rfl, h1, h2⟩ := h
      rw [h1.data_rows (hd v (by simp)), ih h2 (fun x hx => hd x (by simp [hx]))]; rfl

theorem CRs.oneCell {vs : List V} {cs : List Value} {r : List Nat} (h : CRs ρ K w vs cs r) : ∀ c ∈ cs, c.oneCell' = true := by
  induction vs generalizing cs r with
  | nil => cases cs <;> simp_all [CRs]
  | cons v vs ih =>
    cases cs with
    | nil => simp
    | cons c cs =>
      obtain ⟨r1, r2, rfl, h1, h2⟩ := h
      intro x hx
      rcases List.mem_cons.1 hx with rfl | hx
      · exact h1.oneCell
      · exact ih h2 x hx

theorem CRs.bound {vs : List V} {cs : List Value} {r : List Nat} (h : CRs ρ K w vs cs r) : ∀ b ∈ r, b < w.heap.size := by
  induction vs generalizing cs r with
  | nil => cases cs <;> simp_all [CRs]
  | cons v vs ih =>
    cases cs with
    | nil => simp [CRs] at h
    | cons c cs =>
      obtain ⟨r1, r2, rfl, h1, h2⟩ := h
      intro b hb
      rcases List.mem_append.1 hb with hb | hb
      · rcases h1.rows with rfl | ⟨b', _, _, _, rfl, _, hlt, _⟩
        · simp at hb
        · simp at hb; subst hb; exact hlt
      · exact ih h2 b hb

end

/-! ### values of slots -/
def V.mk (v : V) (cs : List Value) : Value := if v.isAgg then .agg cs.toArray else cs.headD undef

def VR0 (ρ : List Nat) (K : Nat → Nat) (w : World) (v : V) (x : Value) (r : List Nat) : Prop :=
  v.wf ∧ ∃ cs, CRs ρ K w v.flat cs r ∧ x = v.mk cs

def TR (ρ : List Nat) (K : Nat → Nat) (w : World) : List V → List Value → List Nat → Prop
  | [], [], r => r = []
  | v :: vs, x :: xs, r => ∃ r1 r2, r = r1 ++ r2 ∧ VR0 ρ K w v x r1 ∧ TR ρ K w vs xs r2
  | _, _, _ => False

def VR (ρ : List Nat) (K : Nat → Nat) (w : World) (v : V) (x : Value) (r : List Nat) : Prop :=
  match v with
  | .dead => r = []
  | .tup vs => ∃ ws : List Value, x = .tuple ws.toArray ∧ TR ρ K w vs ws r
  | v => VR0 ρ K w v x r

end Go.AL
