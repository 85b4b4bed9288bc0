import Derived.Test.YtddncbgdoplgiaaGreatAlRb
namespace Go.AL
open Go.RowKit

/-! ### evaluation of residual programs: lemmas for simp -/
section
variable {P : Program} {R : Type}

@[simp] theorem condK_bool (b : Bool) (x y : Option R) : condK (.bool b) x y = if b then x else y := by cases b <;> rfl
@[simp] theorem view_bool (b : Bool) : V.view (.bool b) = .bool b := rfl
@[simp] theorem view_int (k : IntKind) (n : Int) : V.view (.int k n) = .int k n := rfl
@[simp] theorem view_flt (k : FloatKind) (n : Nat) : V.view (.flt k n) = .flt k n := rfl
@[simp] theorem view_str (s : List UInt8) : V.view (.str s) = .str s := rfl
@[simp] theorem view_nilp : V.view .nilp = .nilp := rfl
@[simp] theorem view_nilm : V.view .nilm = .nilm := rfl
@[simp] theorem view_nilf : V.view .nilf = .nilf := rfl
@[simp] theorem view_nili : V.view .nili = .nili := rfl
@[simp] theorem view_ptr (o off : Nat) (p : List Nat) : V.view (.ptr o off p) = .ptr o off p := rfl
@[simp] theorem view_bsl (o off : Nat) (p : List Nat) (l n : Nat) : V.view (.bsl o off p l n) = .bsl o off p l n := rfl
@[simp] theorem view_mp (o : Nat) : V.view (.mp o) = .mp o := rfl
@[simp] theorem view_fn (f : Nat) (cs : List V) : V.view (.fn f cs) = .fn f cs := rfl
@[simp] theorem view_elem (v : V) : V.view (.elem v) = .elem v := rfl
@[simp] theorem view_list (xs : List V) : V.view (.list xs) = .list xs := rfl
@[simp] theorem view_own (e k : Nat) (xs : List V) : V.view (.own e (k + 1) xs) = .list xs := by simp [V.view]
@[simp] theorem view_own0 (e : Nat) (xs : List V) : V.view (.own e 0 xs) = .own e 0 xs := by simp [V.view]
@[simp] theorem view_agg (fs : List V) : V.view (.agg fs) = .agg (V.views fs) := by simp [V.view]
@[simp] theorem view_arr (n k : Nat) (fs : List V) : V.view (.arr n k fs) = .arr n k (V.views fs) := by simp [V.view]
@[simp] theorem view_tup (fs : List V) : V.view (.tup fs) = .tup (V.views fs) := by simp [V.view]
@[simp] theorem views_nil : V.views [] = [] := rfl
@[simp] theorem views_cons (v : V) (vs : List V) : V.views (v :: vs) = v.view :: V.views vs := rfl
mutual
theorem view_idem : ∀ (v : V), v.view.view = v.view
  | .agg fs => by simp only [V.view]; rw [views_idem fs]
  | .arr n k xs => by simp only [V.view]; rw [views_idem xs]
  | .tup xs => by simp only [V.view]; rw [views_idem xs]
  | .own e k xs => by
    cases k with
    | zero => simp
    | succ k => simp
  | .bool _ | .int _ _ | .flt _ _ | .str _ | .nilp | .nilf | .nili | .nilm | .list _ | .ptr _ _ _ | .bsl _ _ _ _ _ | .elem _ | .fn _ _ | .mp _ | .dead => by simp [V.view]
theorem views_idem : ∀ (vs : List V), V.views (V.views vs) = V.views vs
  | [] => rfl
  | v :: vs => by simp only [V.views]; rw [view_idem v, views_idem vs]
end
attribute [simp] view_idem views_idem

@[simp] theorem evBn_int (op : BinOp) (t : TypeId) (k k' : IntKind) (a b : Int) : evBn P op t (.int k a) (.int k' b) = if k = k' ∨ op = .shl ∨ op = .shr then evInt op k a b else none := rfl
@[simp] theorem evBn_str (op : BinOp) (t : TypeId) (a b : List UInt8) : evBn P op t (.str a) (.str b) = evStr op a b := rfl
@[simp] theorem evBn_flt (op : BinOp) (t : TypeId) (k k' : FloatKind) (a b : Nat) : evBn P op t (.flt k a) (.flt k' b) = if k = k' then evFlt op k a b else none := rfl
theorem evBn_bool_eql {t : TypeId} (h : P.underlying t = some .bool) (a b : Bool) : evBn P .eql t (.bool a) (.bool b) = some (.bool (a == b)) := by simp [evBn, evBin, h]
theorem evBn_bool_neq {t : TypeId} (h : P.underlying t = some .bool) (a b : Bool) : evBn P .neq t (.bool a) (.bool b) = some (.bool (a != b)) := by simp [evBn, evBin, h]
@[simp] theorem evUn_not (b : Bool) : evUn .not (.bool b) = some (.bool (!b)) := rfl
@[simp] theorem evNilCheck_ptr (o off : Nat) (p : List Nat) : evNilCheck (.ptr o off p) = some (.ptr o off p) := rfl
@[simp] theorem finK_some {m : Nat} {v : V} {st : List Ob} (h : v.ahead m = true) : finK m v st = some (v, st.take m) := by simp [finK, h]

theorem evInt_lss (k : IntKind) (a b : Int) : evInt .lss k a b = some (.bool (decide (a < b))) := rfl
theorem evInt_leq (k : IntKind) (a b : Int) : evInt .leq k a b = some (.bool (decide (a ≤ b))) := rfl
theorem evInt_gtr (k : IntKind) (a b : Int) : evInt .gtr k a b = some (.bool (decide (b < a))) := rfl
theorem evInt_geq (k : IntKind) (a b : Int) : evInt .geq k a b = some (.bool (decide (b ≤ a))) := rfl
theorem evInt_eql (k : IntKind) (a b : Int) : evInt .eql k a b = some (.bool (decide (a = b))) := rfl
theorem evInt_neq (k : IntKind) (a b : Int) : evInt .neq k a b = some (.bool (decide (a ≠ b))) := rfl
theorem evInt_add (k : IntKind) (a b : Int) : evInt .add k a b = some (.int k (k.wrap (a + b))) := rfl
theorem evInt_sub (k : IntKind) (a b : Int) : evInt .sub k a b = some (.int k (k.wrap (a - b))) := rfl
theorem evInt_mul (k : IntKind) (a b : Int) : evInt .mul k a b = some (.int k (k.wrap (a * b))) := rfl
attribute [simp] evInt_lss evInt_leq evInt_gtr evInt_geq evInt_eql evInt_neq evInt_add evInt_sub evInt_mul

@[simp] theorem ahead_int (m : Nat) (k : IntKind) (n : Int) : V.ahead m (.int k n) = true := by simp [V.ahead]
@[simp] theorem ahead_flt (m : Nat) (k : FloatKind) (n : Nat) : V.ahead m (.flt k n) = true := by simp [V.ahead]
@[simp] theorem ahead_bool (m : Nat) (b : Bool) : V.ahead m (.bool b) = true := by simp [V.ahead]
@[simp] theorem ahead_str (m : Nat) (s : List UInt8) : V.ahead m (.str s) = true := by simp [V.ahead]
@[simp] theorem ahead_nilp (m : Nat) : V.ahead m .nilp = true := by simp [V.ahead]
@[simp] theorem ahead_ptr (m o off : Nat) (p : List Nat) : V.ahead m (.ptr o off p) = decide (o < m) := by simp [V.ahead]
@[simp] theorem ahead_agg (m : Nat) (fs : List V) : V.ahead m (.agg fs) = V.aheads m fs := by simp [V.ahead]
@[simp] theorem ahead_tup (m : Nat) (fs : List V) : V.ahead m (.tup fs) = V.aheads m fs := by simp [V.ahead]
@[simp] theorem ahead_list (m : Nat) (fs : List V) : V.ahead m (.list fs) = V.aheads m fs := by simp [V.ahead]
@[simp] theorem ahead_own (m e k : Nat) (fs : List V) : V.ahead m (.own e k fs) = V.aheads m fs := by simp [V.ahead]
@[simp] theorem aheads_nil (m : Nat) : V.aheads m [] = true := by simp [V.aheads]
@[simp] theorem aheads_cons (m : Nat) (v : V) (vs : List V) : V.aheads m (v :: vs) = (v.ahead m && V.aheads m vs) := by simp [V.aheads]

theorem tupK_plain {vs : List V} (h : vs.all V.plain = true) : tupK vs = some (.tup vs) := by simp [tupK, h]
@[simp] theorem truncK_all {m : Nat} {e : Ex} {vs : List V} {st : List Ob} (h : aheadAll m vs = true) : truncK m e vs st = some (e, vs, st.take m) := by simp [truncK, h]

/-! loops -/
theorem loopF_eq {σ : Type} {body : σ → Option (Ex × σ)} {s s' : σ} (h : body s = some (.nor, s')) {r : Ex × σ} (h2 : loopF body s' = some r) : loopF body s = some r := loopF_nor h h2

/-- a loop that counts up to n, its state a function of a ghost -/
theorem loopF_count {α σ : Type} {body : σ → Option (Ex × σ)} (f : Nat → α → σ) (g : Nat → α → α) (e : Ex) (he : e ≠ .nor) (n : Nat)
    (step : ∀ i a, i < n → body (f i a) = some (.nor, f (i + 1) (g i a))) (last : ∀ a, body (f n a) = some (e, f n a)) :
    ∀ (m i : Nat) (a : α), i + m = n → loopF body (f i a) = some (e, f n ((List.range' i m).foldl (fun a i => g i a) a))
  | 0, i, a, h => by
    have : i = n := by omega
    subst this
    exact loopF_out he (last a)
  | m + 1, i, a, h => by
    rw [List.range'_succ]
    exact loopF_nor (step i a (by omega)) (loopF_count f g e he n step last m (i + 1) (g i a) (by omega))

/-! memory -/
theorem loadV_ptr (t : TypeId) (st : List Ob) (o off : Nat) (p : List Nat) {v0 v : V} (h : st[o]? = some (.box v0)) (ha : v0.at? p = some (off, v)) (ht : tyS P t = some (v.isAgg, v.size)) :
    loadV P t st (.ptr o off p) = some v.view := by
  simp [loadV, evLoad, AS.deref, stOf, h, ha, ht]
theorem loadV_elem (t : TypeId) (st : List Ob) {v : V} (ht : tyS P t = some (v.isAgg, v.size)) : loadV P t st (.elem v) = some v.view := by
  simp [loadV, evLoad, AS.deref, stOf, ht]
theorem loadE_elem (t : TypeId) {v : V} (ht : tyS P t = some (v.isAgg, v.size)) : loadE P t (.elem v) = some v.view := by
  simp [loadE, ht]
theorem storeV_ptr (t : TypeId) (st : List Ob) (o off : Nat) (p : List Nat) {v0 old x : V} (h : st[o]? = some (.box v0)) (ha : v0.at? p = some (off, old)) (hx : x.isVal = true) (ht : (tyS P t).map (·.2) = some x.size) (hs : x.size = old.size) (hh : x.ahead o = true) :
    storeV P t st (.ptr o off p) x = some (st.set o (.box (v0.set p x))) := by
  simp [storeV, h, ha, hx, ht, hs, hh]
@[simp] theorem get_new (st : List Ob) (x : Ob) : (st ++ [x])[st.length]? = some x := by simp
@[simp] theorem set_new (st : List Ob) (x y : Ob) : (st ++ [x]).set st.length y = st ++ [y] := by
  rw [List.set_append_right _ _ (Nat.le_refl _)]; simp
@[simp] theorem take_new (st l : List Ob) : (st ++ l).take st.length = st := by simp
@[simp] theorem at_nil (v : V) : v.at? [] = some (0, v) := by cases v <;> rfl
@[simp] theorem set_nil (v u : V) : v.set [] u = u := by cases v <;> rfl
theorem at_agg1 (fs : List V) (i : Nat) {x : V} (h : fs[i]? = some x) : V.at? (.agg fs) [i] = some (V.sizes (fs.take i), x) := by
  simp [V.at?, h]
theorem set_agg1 (fs : List V) (i : Nat) (u : V) : V.set (.agg fs) [i] u = .agg (fs.set i u) := by simp [V.set]
theorem evFieldAddr_ptr (t : TypeId) (o off : Nat) (p : List Nat) (i : Nat) {fo ft : Nat} {s : Bool × Nat} (h : fldS P t i = some (fo, ft)) (ht : tyS P ft = some s) (hs : s.2 ≠ 0) : evFieldAddr P t (.ptr o off p) i = some (.ptr o (off + fo) (p ++ [i])) := by
  simp [evFieldAddr, h, ht, hs]
theorem evFieldAddr_elem (t : TypeId) (fs : List V) (i : Nat) {fo ft : Nat} {s : Bool × Nat} {x : V} (h : fldS P t i = some (fo, ft)) (ht : tyS P ft = some s) (hs : s.2 ≠ 0) (hx : fs[i]? = some x) (ho : V.sizes (fs.take i) = fo) (hz : x.size = s.2) :
    evFieldAddr P t (.elem (.agg fs)) i = some (.elem x) := by
  simp [evFieldAddr, h, ht, hs, hx, ho, hz]
theorem evIndexAddr_list (t : TypeId) (xs : List V) (k : IntKind) (j : Nat) {e : Nat} {s : Bool × Nat} {x : V} (h : slcS P t = some e) (ht : tyS P e = some s) (hx : xs[j]? = some x) (hz : x.size = s.2) : evIndexAddr P t (.list xs) (.int k j) = some (.elem x) := by
  simp [evIndexAddr, h, ht, hx, hz]
theorem evIndexAddr_own (t : TypeId) (e' k' : Nat) (xs : List V) (k : IntKind) (j : Nat) {e : Nat} {s : Bool × Nat} {x : V} (h : slcS P t = some e) (ht : tyS P e = some s) (hx : xs[j]? = some x) (hz : x.size = s.2) : evIndexAddr P t (.own e' k' xs) (.int k j) = some (.elem x) := by
  simp [evIndexAddr, h, ht, hx, hz]
theorem lenV_list (t : TypeId) (st : List Ob) (xs : List V) (h : (slcS P t).isSome = true) : lenV P t st (.list xs) = some (.int .i64 xs.length) := by simp [lenV, evLen, h]
theorem lenV_own (t : TypeId) (st : List Ob) (e k : Nat) (xs : List V) (h : (slcS P t).isSome = true) : lenV P t st (.own e k xs) = some (.int .i64 xs.length) := by simp [lenV, evLen, h]
theorem lenV_str (t : TypeId) (st : List Ob) (s : List UInt8) (h : isStrT P t = true) : lenV P t st (.str s) = some (.int .i64 s.length) := by simp [lenV, evLen, h]
theorem lenE_list (t : TypeId) (xs : List V) (h : (slcS P t).isSome = true) : lenE P t (.list xs) = some (.int .i64 xs.length) := by simp [lenE, evLen, h]
theorem lenE_own (t : TypeId) (e k : Nat) (xs : List V) (h : (slcS P t).isSome = true) : lenE P t (.own e k xs) = some (.int .i64 xs.length) := by simp [lenE, evLen, h]
theorem lenE_str (t : TypeId) (s : List UInt8) (h : isStrT P t = true) : lenE P t (.str s) = some (.int .i64 s.length) := by simp [lenE, evLen, h]
theorem aheads_map {α : Type} (f : α → V) (l : List α) (m : Nat) (h : ∀ x, (f x).ahead m = true) : V.aheads m (l.map f) = true := by
  rw [aheads_iff]; intro x hx; obtain ⟨y, _, rfl⟩ := List.mem_map.1 hx; exact h y
theorem views_id {α : Type} (f : α → V) (l : List α) (h : ∀ x, (f x).view = f x) : V.views (l.map f) = l.map f := by
  rw [views_map, List.map_map]; exact List.map_congr_left fun x _ => h x
theorem wrap_i64 (n : Int) (h1 : -9223372036854775808 ≤ n) (h2 : n < 9223372036854775808) : IntKind.i64.wrap n = n := Go.IntWalk.i64_in n ⟨h1, by omega⟩

end
end Go.AL
