import Derived.Test.YtddncbgdoplgiaaGreatR29
import Derived.Test.YtddncbgdoplgiaaGreatTf1
import Derived.Test.YtddncbgdoplgiaaGreatAlSp
namespace Go.R
open Go Go.AL Go.Proofs
set_option maxRecDepth 10000

/-! ### floats by their bits -/
@[simp] theorem ext179 : isExt Tryz.prog 179 "math.Float64bits" = true := by kernel_rfl
theorem bits179 {b : Nat} (h : b < 2 ^ 64) : natV Tryz.prog 179 [.flt .f64 b] = some (.int .u64 b) := by
  have : b ≠ nanMark := by simp only [nanMark]; omega
  simp [natV, this]

variable {D : FEv} {st : List Ob}

theorem wrap_u64 (n : Int) (h0 : 0 ≤ n) (h1 : n < 2 ^ 64) : IntKind.u64.wrap n = n := by
  have : IntKind.u64.wrap n = n % 2 ^ 64 := by
    simp [IntKind.wrap, IntKind.bits, IntKind.signed]
  rw [this]; omega

/-- the place of a number in the order of all -/
def fkey (b : Nat) : Nat := if 2 ^ 63 ≤ b then 2 ^ 64 - 1 - b else b + 2 ^ 63

theorem r295_spec {b : Nat} (h : b < 2 ^ 64) : r295 D (.flt .f64 b) st = some (.int .u64 b, st) := by
  simp [r295, bits179 h]

theorem and_sign {b : Nat} (h : b < 2 ^ 64) : (BitVec.ofInt 64 (b : Int) &&& BitVec.ofInt 64 9223372036854775808).toNat = if 2 ^ 63 ≤ b then 2 ^ 63 else 0 := by
  rw [BitVec.toNat_and]
  have h1 : (BitVec.ofInt 64 (b : Int)).toNat = b := by simp [BitVec.toNat_ofInt]; omega
  have h2 : (BitVec.ofInt 64 9223372036854775808).toNat = 2 ^ 63 := by decide
  rw [h1, h2]
  have ht : b.testBit 63 = decide (2 ^ 63 ≤ b) := by
    rw [Nat.testBit_eq_decide_div_mod_eq]
    congr 1
    apply propext
    constructor <;> intro h' <;> omega
  apply Nat.eq_of_testBit_eq
  intro i
  rw [Nat.testBit_and, Nat.testBit_two_pow]
  by_cases hi : 63 = i
  · subst hi
    rw [ht]
    by_cases hb : 2 ^ 63 ≤ b
    · simp only [hb, if_true, decide_true, Bool.and_self]; decide
    · simp only [hb, if_false, decide_false, Bool.false_and]; decide
  · simp only [hi, decide_false, Bool.and_false]
    by_cases hb : 2 ^ 63 ≤ b
    · simp only [hb, if_true, Nat.testBit_two_pow, hi, decide_false]
    · simp only [hb, if_false, Nat.zero_testBit]

theorem or_sign {b : Nat} (h : b < 2 ^ 63) : (BitVec.ofInt 64 (b : Int) ||| BitVec.ofInt 64 9223372036854775808).toNat = b + 2 ^ 63 := by
  rw [BitVec.toNat_or]
  have h1 : (BitVec.ofInt 64 (b : Int)).toNat = b := by simp [BitVec.toNat_ofInt]; omega
  have h2 : (BitVec.ofInt 64 9223372036854775808).toNat = 2 ^ 63 := by decide
  rw [h1, h2]
  have := Nat.two_pow_add_eq_or_of_lt (i := 63) h 1
  rw [Nat.or_comm]
  simp at this ⊢
  omega

theorem xor_all {b : Nat} (h : b < 2 ^ 64) : (BitVec.ofInt 64 (IntKind.u64.max) ^^^ BitVec.ofInt 64 (b : Int)).toNat = 2 ^ 64 - 1 - b := by
  have h1 : BitVec.ofInt 64 (IntKind.u64.max) = BitVec.allOnes 64 := by decide
  rw [h1, BitVec.allOnes_xor, BitVec.toNat_not]
  have h2 : (BitVec.ofInt 64 (b : Int)).toNat = b := by simp [BitVec.toNat_ofInt]; omega
  rw [h2]

theorem and_sign' {b : Nat} (h : b < 2 ^ 64) : (BitVec.ofInt IntKind.u64.bits (b : Int) &&& BitVec.ofInt IntKind.u64.bits 9223372036854775808).toNat = if 2 ^ 63 ≤ b then 2 ^ 63 else 0 := and_sign h
theorem or_sign' {b : Nat} (h : b < 2 ^ 63) : (BitVec.ofInt IntKind.u64.bits (b : Int) ||| BitVec.ofInt IntKind.u64.bits 9223372036854775808).toNat = b + 2 ^ 63 := or_sign h
theorem xor_all' {b : Nat} (h : b < 2 ^ 64) : (BitVec.ofInt IntKind.u64.bits (if IntKind.u64.signed then -1 else IntKind.u64.max) ^^^ BitVec.ofInt IntKind.u64.bits (b : Int)).toNat = 2 ^ 64 - 1 - b := xor_all h

theorem r294_spec {b : Nat} (h : b < 2 ^ 64) : r294 D (.flt .f64 b) st = some (.int .u64 (fkey b), st) := by
  unfold r294
  simp only [view_flt, r295_spec h, Option.bind_some, view_int, evBn_int, true_or, if_true, evInt, and_sign' h, evUn, xor_all' h]
  by_cases hb : 2 ^ 63 ≤ b
  · simp only [hb, if_true]
    have hw : IntKind.u64.wrap ((2 ^ 63 : Nat) : Int) = 2 ^ 63 := wrap_u64 _ (by decide) (by decide)
    simp only [hw, condK_bool]
    rw [wrap_u64 _ (by omega) (by omega)]
    simp [fkey, hb]
  · simp only [hb, if_false]
    have hw : IntKind.u64.wrap ((0 : Nat) : Int) = 0 := wrap_u64 _ (by decide) (by decide)
    simp only [hw, condK_bool, or_sign' (by omega : b < 2 ^ 63)]
    rw [wrap_u64 ((b + 2 ^ 63 : Nat) : Int) (by omega) (by omega)]
    simp [fkey, hb]

theorem r181_spec {a b : Nat} (ha : a < 2 ^ 64) (hb : b < 2 ^ 64) : r181 D (.flt .f64 a) (.flt .f64 b) st = some (.bool (decide (fkey a < fkey b)), st) := by
  simp [r181, r294_spec ha, r294_spec hb]

theorem r180_spec {b : Nat} (h : b < 2 ^ 64) : r180 D (.flt .f64 b) st = some (.bool (decide (2 ^ 63 ≤ b)), st) := by
  simp [r180, bits179 h]
  omega

theorem r48_spec {a b : Nat} (ha : a < 2 ^ 64) (hb : b < 2 ^ 64) : r48 D (.flt .f64 a) (.flt .f64 b) st = some (.bool (decide (fkey a < fkey b)), st) := by
  unfold r48
  simp only [view_flt, bits179 ha, bits179 hb, Option.bind_some, r180_spec ha, r180_spec hb, evBn_bool_neq isBool_4, condK_bool]
  by_cases h1 : 2 ^ 63 ≤ a <;> by_cases h2 : 2 ^ 63 ≤ b <;> simp [h1, h2, fkey] <;> omega

theorem r51_spec {a b : Nat} (ha : a < 2 ^ 64) (hb : b < 2 ^ 64) : r51 D (.flt .f64 a) (.flt .f64 b) st = some (.bool (decide (a = b)), st) := by
  simp [r51, bits179 ha, bits179 hb]
  omega

theorem r182_spec {a b : Nat} (ha : a < 2 ^ 64) (hb : b < 2 ^ 64) : r182 D (.flt .f64 a) (.flt .f64 b) st = some (.bool (decide (a = b)), st) := by
  simp [r182, r295_spec ha, r295_spec hb]
  omega


/-! ### reports -/
structure Rep where
  used : Int
  room : Int
  keys : Int
  fill : Nat
  mean : Nat
def Rep.v (r : Rep) : V := .agg [.int .i64 r.used, .int .i64 r.room, .int .i64 r.keys, .flt .f64 r.fill, .flt .f64 r.mean]
def Rep.ok (r : Rep) : Prop := r.fill < 2 ^ 64 ∧ r.mean < 2 ^ 64
theorem Rep.view_v (r : Rep) : r.v.view = r.v := by simp [Rep.v]
@[simp] theorem Rep.ahead_v (r : Rep) (m : Nat) : r.v.ahead m = true := by simp [Rep.v]
@[simp] theorem Rep.size_v (r : Rep) : r.v.size = 5 := by simp [Rep.v, V.size, V.sizes]
@[simp] theorem Rep.isAgg_v (r : Rep) : r.v.isAgg = true := rfl
@[simp] theorem Rep.isVal_v (r : Rep) : r.v.isVal = true := rfl
attribute [simp] Rep.view_v

theorem ix66 {l : List Rep} {i : Nat} (h : i < l.length) : evIndexAddr Tryz.prog 66 (.list (l.map Rep.v)) (.int .i64 i) = some (.elem (l[i]).v) :=
  evIndexAddr_list 66 _ _ _ slc_66 ty_62 (by simp [h]) (by simp)
@[simp] theorem len66 (l : List Rep) : lenV Tryz.prog 66 st (.list (l.map Rep.v)) = some (.int .i64 l.length) := by rw [lenV_list _ _ _ (by simp)]; simp
@[simp] theorem lenE66 (l : List Rep) : lenE Tryz.prog 66 (.list (l.map Rep.v)) = some (.int .i64 l.length) := by rw [lenE_list _ _ (by simp)]; simp
@[simp] theorem f62_0 (r : Rep) : evFieldAddr Tryz.prog 62 (.elem r.v) 0 = some (.elem (.int .i64 r.used)) := evFieldAddr_elem 62 _ _ fld_62_0 ty_3 (by decide) rfl rfl rfl
@[simp] theorem f62_1 (r : Rep) : evFieldAddr Tryz.prog 62 (.elem r.v) 1 = some (.elem (.int .i64 r.room)) := evFieldAddr_elem 62 _ _ fld_62_1 ty_3 (by decide) rfl rfl rfl
@[simp] theorem f62_2 (r : Rep) : evFieldAddr Tryz.prog 62 (.elem r.v) 2 = some (.elem (.int .i64 r.keys)) := evFieldAddr_elem 62 _ _ fld_62_2 ty_3 (by decide) rfl rfl rfl
@[simp] theorem f62_3 (r : Rep) : evFieldAddr Tryz.prog 62 (.elem r.v) 3 = some (.elem (.flt .f64 r.fill)) := evFieldAddr_elem 62 _ _ fld_62_3 ty_60 (by decide) rfl rfl rfl
@[simp] theorem f62_4 (r : Rep) : evFieldAddr Tryz.prog 62 (.elem r.v) 4 = some (.elem (.flt .f64 r.mean)) := evFieldAddr_elem 62 _ _ fld_62_4 ty_60 (by decide) rfl rfl rfl
@[simp] theorem fp62 (o off : Nat) (p : List Nat) (i : Nat) (h : i < 5) : evFieldAddr Tryz.prog 62 (.ptr o off p) i = some (.ptr o (off + i) (p ++ [i])) := by
  match i, h with
  | 0, _ => exact evFieldAddr_ptr 62 _ _ _ _ fld_62_0 ty_3 (by decide)
  | 1, _ => exact evFieldAddr_ptr 62 _ _ _ _ fld_62_1 ty_3 (by decide)
  | 2, _ => exact evFieldAddr_ptr 62 _ _ _ _ fld_62_2 ty_3 (by decide)
  | 3, _ => exact evFieldAddr_ptr 62 _ _ _ _ fld_62_3 ty_60 (by decide)
  | 4, _ => exact evFieldAddr_ptr 62 _ _ _ _ fld_62_4 ty_60 (by decide)
@[simp] theorem le60 (b : Nat) : loadE Tryz.prog 60 (.elem (.flt .f64 b)) = some (.flt .f64 b) := loadE_elem 60 ty_60
@[simp] theorem lv60 (b : Nat) : loadV Tryz.prog 60 st (.elem (.flt .f64 b)) = some (.flt .f64 b) := loadV_elem 60 st ty_60
@[simp] theorem le3 (b : Int) : loadE Tryz.prog 3 (.elem (.int .i64 b)) = some (.int .i64 b) := loadE_elem 3 ty_3
@[simp] theorem le62 (r : Rep) : loadE Tryz.prog 62 (.elem r.v) = some r.v := by rw [loadE_elem 62 (by simp)]; simp
@[simp] theorem lv62 (r : Rep) : loadV Tryz.prog 62 st (.elem r.v) = some r.v := by rw [loadV_elem 62 st (by simp)]; simp
@[simp] theorem st62 (z : V) (r : Rep) (hz : z.size = 5) : storeV Tryz.prog 62 (st ++ [Ob.box z]) (.ptr st.length 0 []) r.v = some (st ++ [Ob.box r.v]) := by
  rw [storeV_ptr 62 _ _ _ _ (get_new st _) (at_nil _) (by simp) (by simp) (by simp [hz]) (by simp)]; simp
@[simp] theorem lf62_3 (r : Rep) : loadV Tryz.prog 60 (st ++ [Ob.box r.v]) (.ptr st.length 3 [3]) = some (.flt .f64 r.fill) := by
  rw [loadV_ptr 60 _ _ _ _ (get_new st _) (v := .flt .f64 r.fill) rfl ty_60]; rfl

/-! ### Smooth -/
def nanB (a : Nat) : Bool := ordF .f64 a a != some .eq
def mmN (mx : Bool) (x y : Nat) : Nat := if x = nanMark ∨ y = nanMark then nanMark else match FloatKind.f64.format.order x y with
  | none => nanMark
  | some .lt => if mx then y else x
  | some .gt => if mx then x else y
  | some .eq => if mx then (if (FloatKind.f64.decode x).neg then y else x) else (if (FloatKind.f64.decode x).neg then x else y)
def arN (op : BinOp) (a b : Nat) : Nat := (if a = nanMark ∨ b = nanMark then none else floatBits op .f64 a b).getD nanMark
def smooth (a b c : Nat) : Nat := if nanB a then b else if nanB b || nanB c then a else arN .add a (arN .mul (arN .sub b a) (mmN false (mmN true c 0) 4607182418800017408))

theorem evMm_flt (mx : Bool) (x y : Nat) : evMm mx (.flt .f64 x) (.flt .f64 y) = some (.flt .f64 (mmN mx x y)) := by
  simp only [evMm, mmN, if_true]
  split
  · rfl
  · split <;> simp_all

theorem evFlt_ar (op : BinOp) (h : op = .add ∨ op = .sub ∨ op = .mul ∨ op = .quo) (a b : Nat) : evFlt op .f64 a b = some (.flt .f64 (arN op a b)) := by
  rcases h with rfl | rfl | rfl | rfl <;> simp [evFlt, mkNan, arN]

theorem r47_spec (a b c : Nat) : r47 D (.flt .f64 a) (.flt .f64 b) (.flt .f64 c) st = some (.flt .f64 (smooth a b c), st) := by
  unfold r47
  have h1 : ∀ x, evFlt .neq .f64 x x = some (.bool (nanB x)) := fun x => rfl
  simp only [view_flt, evBn_flt, if_true, h1, Option.bind_some, condK_bool, view_bool]
  by_cases ha : nanB a = true
  · simp [ha, smooth]
  · by_cases hb : nanB b = true
    · simp [ha, hb, smooth]
    · by_cases hc : nanB c = true
      · simp [ha, hb, hc, smooth]
      · simp [ha, hb, hc, smooth, evMm_flt, evFlt_ar]

theorem r52_spec (a : Nat) : r52 D (.flt .f64 a) (.flt .f64 a) st = some (.bool true, st) := by
  unfold r52
  have h1 : evFlt .neq .f64 a a = some (.bool (nanB a)) := rfl
  have h2 : evFlt .eql .f64 a a = some (.bool (!nanB a)) := by simp [evFlt, nanB, bne]
  simp only [view_flt, evBn_flt, if_true, h1, h2, Option.bind_some, condK_bool, view_bool]
  by_cases ha : nanB a = true <;> simp [ha]


theorem wrap_succ {i n : Nat} (h : i < n) (hn : n < 2 ^ 62) : IntKind.i64.wrap ((i : Int) + 1) = ((i + 1 : Nat) : Int) := by
  rw [wrap_i64 _ (by omega) (by omega)]; simp

theorem aheads_reps (l : List Rep) (m : Nat) : V.aheads m (l.map Rep.v) = true := aheads_map _ _ _ fun r => r.ahead_v m

/-! ### Trend -/
def trendS (share : Nat) (l : List Rep) (st : List Ob) (i : Nat) (a : Nat) : Sn := ([.int .i64 i, .flt .f64 share, .flt .f64 a, .list (l.map Rep.v), .int .i64 l.length], st)
def fillAt (l : List Rep) (i : Nat) : Nat := ((l[i]?).map Rep.fill).getD 0
theorem fillAt_lt {l : List Rep} {i : Nat} (h : i < l.length) : fillAt l i = (l[i]).fill := by simp [fillAt, h]

theorem r53_step {share : Nat} {l : List Rep} {st : List Ob} (hl : l.length < 2 ^ 62) (i a : Nat) (h : i < l.length) :
    r53_l0 D (trendS share l st i a) = some (.nor, trendS share l st (i + 1) (smooth a (fillAt l i) share)) := by
  unfold r53_l0 trendS
  simp only [List.getD_cons_zero, List.getD_cons_succ, evBn_int, true_or, if_true, evInt_lss, evInt_add, Option.bind_some, condK_bool, Int.ofNat_lt, h, decide_true, ix66 h, lv62, zero_62]
  rw [st62 _ _ rfl]
  simp [r47_spec, wrap_succ h hl, fillAt_lt h, aheadAll, aheads_reps]

theorem r53_last {share : Nat} {l : List Rep} {st : List Ob} (a : Nat) : r53_l0 D (trendS share l st l.length a) = some (.ex 0, trendS share l st l.length a) := by
  unfold r53_l0 trendS
  simp [aheadAll, aheads_reps]

def trendN (share : Nat) (l : List Rep) (a : Nat) : Nat := (List.range' 0 l.length).foldl (fun a i => smooth a (fillAt l i) share) a

theorem r53_spec {old share : Nat} {l : List Rep} {st : List Ob} (hl : l.length < 2 ^ 62) : r53 D (.flt .f64 old) (.flt .f64 share) (.list (l.map Rep.v)) st = some (.flt .f64 (trendN share l old), st) := by
  unfold r53
  have hloop := loopF_count (body := r53_l0 D) (trendS share l st) (fun i a => smooth a (fillAt l i) share) (.ex 0) (by simp) l.length (fun i a h => r53_step hl i a h) (fun a => r53_last a) l.length 0 old (by omega)
  simp only [trendS] at hloop
  simp only [view_list, len66, Option.bind_some]
  rw [show (V.int IntKind.i64 0) = V.int .i64 ((0 : Nat) : Int) from rfl, hloop]
  simp [trendN]

/-! ### Fullest -/
def bestN (l : List Rep) (b i : Nat) : Nat := if fkey (fillAt l b) < fkey (fillAt l i) then i else b
def fullS (l : List Rep) (st : List Ob) (i b : Nat) : Sn := ([.int .i64 i, .int .i64 b, .list (l.map Rep.v), .list (l.map Rep.v), .int .i64 l.length], st)
def fullN (l : List Rep) : Nat := (List.range' 0 l.length).foldl (fun b i => bestN l b i) 0

theorem fullN_lt_aux (l : List Rep) : ∀ (m i b : Nat), b < l.length → i + m ≤ l.length → (List.range' i m).foldl (fun b i => bestN l b i) b < l.length
  | 0, i, b, hb, _ => by simpa using hb
  | m + 1, i, b, hb, h => by
    rw [List.range'_succ]
    refine fullN_lt_aux l m (i + 1) _ ?_ (by omega)
    simp only [bestN]; split <;> omega

/-- the loops that look for the fullest one keep the best within the list -/
theorem r49_loop {l : List Rep} {st : List Ob} (hl : l.length < 2 ^ 62) (hok : ∀ r ∈ l, r.ok) : ∀ (m i b : Nat), i + m = l.length → (b < l.length ∨ m = 0) →
    loopF (r49_l0 D) (fullS l st i b) = some (.ex 0, fullS l st l.length ((List.range' i m).foldl (fun b i => bestN l b i) b))
  | 0, i, b, h, _ => by
    have : i = l.length := by omega
    subst this
    refine loopF_out (by simp) ?_
    unfold r49_l0 fullS
    simp [aheadAll, aheads_reps]
  | m + 1, i, b, h, hb => by
    have hi : i < l.length := by omega
    have hb : b < l.length := by omega
    rw [List.range'_succ]
    have h1 : (l[b]).fill < 2 ^ 64 := (hok _ (List.getElem_mem hb)).1
    have h2 : (l[i]).fill < 2 ^ 64 := (hok _ (List.getElem_mem hi)).1
    refine loopF_nor ?_ (r49_loop hl hok m (i + 1) (bestN l b i) (by omega) (.inl (by unfold bestN; split <;> omega)))
    unfold r49_l0 fullS
    simp only [List.getD_cons_zero, List.getD_cons_succ, evBn_int, true_or, if_true, evInt_lss, evInt_add, Option.bind_some, condK_bool, Int.ofNat_lt, hi, decide_true, view_int, view_list, ix66 hi, ix66 hb, lv62, zero_62]
    rw [st62 _ _ rfl]
    simp only [Option.bind_some, f62_3, le60, view_flt, fp62 _ _ _ 3 (by decide), Nat.zero_add, List.nil_append, lf62_3, aheads_cons, ahead_flt, aheads_nil, Bool.and_self, if_true, r181_spec h1 h2, List.isEmpty_nil, condK_bool]
    by_cases hc : fkey (l[b]).fill < fkey (l[i]).fill <;> simp [hc, bestN, fillAt_lt hi, fillAt_lt hb, wrap_succ hi hl, aheadAll, aheads_reps]

theorem r49_spec {l : List Rep} {st : List Ob} (hl : l.length < 2 ^ 62) (hok : ∀ r ∈ l, r.ok) : r49 D (.list (l.map Rep.v)) st = some (.tup [.int .i64 (fullN l), .bool (decide (0 < l.length))], st) := by
  unfold r49
  have hloop := r49_loop (D := D) (st := st) hl hok l.length 0 0 (by omega) (by omega)
  simp only [fullS] at hloop
  simp only [view_list, len66, Option.bind_some]
  rw [show (V.int IntKind.i64 0) = V.int .i64 ((0 : Nat) : Int) from rfl, hloop]
  simp [fullN, tupK, V.plain]

@[simp] theorem lp_0_0 (a b : Rep) : loadV Tryz.prog 3 [Ob.box a.v, Ob.box b.v] (.ptr 0 0 [0]) = some (.int .i64 a.used) := by
  rw [loadV_ptr 3 _ _ _ _ (v0 := a.v) rfl (v := .int .i64 a.used) rfl ty_3]; rfl
@[simp] theorem lp_0_1 (a b : Rep) : loadV Tryz.prog 3 [Ob.box a.v, Ob.box b.v] (.ptr 0 1 [1]) = some (.int .i64 a.room) := by
  rw [loadV_ptr 3 _ _ _ _ (v0 := a.v) rfl (v := .int .i64 a.room) rfl ty_3]; rfl
@[simp] theorem lp_0_2 (a b : Rep) : loadV Tryz.prog 3 [Ob.box a.v, Ob.box b.v] (.ptr 0 2 [2]) = some (.int .i64 a.keys) := by
  rw [loadV_ptr 3 _ _ _ _ (v0 := a.v) rfl (v := .int .i64 a.keys) rfl ty_3]; rfl
@[simp] theorem lp_0_3 (a b : Rep) : loadV Tryz.prog 60 [Ob.box a.v, Ob.box b.v] (.ptr 0 3 [3]) = some (.flt .f64 a.fill) := by
  rw [loadV_ptr 60 _ _ _ _ (v0 := a.v) rfl (v := .flt .f64 a.fill) rfl ty_60]; rfl
@[simp] theorem lp_0_4 (a b : Rep) : loadV Tryz.prog 60 [Ob.box a.v, Ob.box b.v] (.ptr 0 4 [4]) = some (.flt .f64 a.mean) := by
  rw [loadV_ptr 60 _ _ _ _ (v0 := a.v) rfl (v := .flt .f64 a.mean) rfl ty_60]; rfl
@[simp] theorem lp_1_0 (a b : Rep) : loadV Tryz.prog 3 [Ob.box a.v, Ob.box b.v] (.ptr 1 0 [0]) = some (.int .i64 b.used) := by
  rw [loadV_ptr 3 _ _ _ _ (v0 := b.v) rfl (v := .int .i64 b.used) rfl ty_3]; rfl
@[simp] theorem lp_1_1 (a b : Rep) : loadV Tryz.prog 3 [Ob.box a.v, Ob.box b.v] (.ptr 1 1 [1]) = some (.int .i64 b.room) := by
  rw [loadV_ptr 3 _ _ _ _ (v0 := b.v) rfl (v := .int .i64 b.room) rfl ty_3]; rfl
@[simp] theorem lp_1_2 (a b : Rep) : loadV Tryz.prog 3 [Ob.box a.v, Ob.box b.v] (.ptr 1 2 [2]) = some (.int .i64 b.keys) := by
  rw [loadV_ptr 3 _ _ _ _ (v0 := b.v) rfl (v := .int .i64 b.keys) rfl ty_3]; rfl
@[simp] theorem lp_1_3 (a b : Rep) : loadV Tryz.prog 60 [Ob.box a.v, Ob.box b.v] (.ptr 1 3 [3]) = some (.flt .f64 b.fill) := by
  rw [loadV_ptr 60 _ _ _ _ (v0 := b.v) rfl (v := .flt .f64 b.fill) rfl ty_60]; rfl
@[simp] theorem lp_1_4 (a b : Rep) : loadV Tryz.prog 60 [Ob.box a.v, Ob.box b.v] (.ptr 1 4 [4]) = some (.flt .f64 b.mean) := by
  rw [loadV_ptr 60 _ _ _ _ (v0 := b.v) rfl (v := .flt .f64 b.mean) rfl ty_60]; rfl

def sameRep (a b : Rep) : Bool := decide (a.used = b.used) && (decide (a.room = b.room) && (decide (a.keys = b.keys) && (decide (a.fill = b.fill) && decide (a.mean = b.mean))))

theorem r50_spec (a b : Rep) (ha : a.ok) (hb : b.ok) : r50 D a.v b.v [] = some (.bool (sameRep a b), []) := by
  unfold r50 sameRep
  simp only [Rep.isVal_v, Rep.ahead_v, and_self, if_true, List.nil_append, Rep.view_v, List.length_nil, List.length_cons, List.cons_append, Nat.zero_add,
    fp62 _ _ _ 0 (by decide), fp62 _ _ _ 1 (by decide), fp62 _ _ _ 2 (by decide), fp62 _ _ _ 3 (by decide), fp62 _ _ _ 4 (by decide), Option.bind_some,
    lp_0_0, lp_0_1, lp_0_2, lp_0_3, lp_0_4, lp_1_0, lp_1_1, lp_1_2, lp_1_3, lp_1_4, evBn_int, true_or, evInt_eql, view_bool, condK_bool, view_flt, r182_spec ha.1 hb.1, r182_spec ha.2 hb.2]
  by_cases h1 : a.used = b.used <;> by_cases h2 : a.room = b.room <;> by_cases h3 : a.keys = b.keys <;> by_cases h4 : a.fill = b.fill <;> simp [h1, h2, h3, h4]

/-! ### the law -/
def wantS (share old : Nat) (l : List Rep) (st : List Ob) (i : Nat) (p : Nat × Nat) : Sn := ([.int .i64 i, .list (l.map Rep.v), .int .i64 p.2, .flt .f64 share, .flt .f64 p.1, .flt .f64 old], st)

theorem r6_loop {share old : Nat} {l : List Rep} (hl : l.length < 2 ^ 62) (hok : ∀ r ∈ l, r.ok) : ∀ (m i a b : Nat), i + m = l.length → (b < l.length ∨ m = 0) →
    loopF (r6_l0 D) (wantS share old l st i (a, b)) = some (.ex 0, wantS share old l st l.length ((List.range' i m).foldl (fun a i => smooth a (fillAt l i) share) a, (List.range' i m).foldl (fun b i => bestN l b i) b))
  | 0, i, a, b, h, _ => by
    have : i = l.length := by omega
    subst this
    refine loopF_out (by simp) ?_
    unfold r6_l0 wantS
    simp
  | m + 1, i, a, b, h, hb => by
    have hi : i < l.length := by omega
    have hb : b < l.length := by omega
    rw [List.range'_succ]
    have h1 : (l[b]).fill < 2 ^ 64 := (hok _ (List.getElem_mem hb)).1
    have h2 : (l[i]).fill < 2 ^ 64 := (hok _ (List.getElem_mem hi)).1
    refine loopF_nor ?_ (r6_loop hl hok m (i + 1) (smooth a (fillAt l i) share) (bestN l b i) (by omega) (.inl (by unfold bestN; split <;> omega)))
    unfold r6_l0 wantS
    simp only [List.getD_cons_zero, List.getD_cons_succ, evBn_int, true_or, if_true, evInt_lss, evInt_add, Option.bind_some, condK_bool, Int.ofNat_lt, hi, decide_true, view_int, view_list, view_flt, ix66 hi, ix66 hb, len66,
      f62_3, lv60, le60, r47_spec, aheads_cons, ahead_flt, aheads_nil, Bool.and_self, r48_spec h1 h2, List.isEmpty_nil]
    by_cases hc : fkey (l[b]).fill < fkey (l[i]).fill <;> simp [hc, bestN, fillAt_lt hi, fillAt_lt hb, wrap_succ hi hl]

theorem wrap_lit (n : Int) : V.int .i64 n = V.int .i64 n := rfl

theorem r6_tail {share old : Nat} {l : List Rep} (hl : l.length < 2 ^ 62) (hok : ∀ r ∈ l, r.ok) :
    ((loopF (r6_l0 D) ([(V.int .i64 0), .list (l.map Rep.v), (V.int .i64 0), .flt .f64 share, (V.flt .f64 old).view, .flt .f64 old], [])) = some (.ex 0, wantS share old l [] l.length (trendN share l old, fullN l))) := by
  have := r6_loop (D := D) (st := []) (share := share) (old := old) hl hok l.length 0 old 0 (by omega) (by omega)
  simpa [wantS, trendN, fullN] using this

theorem r6_spec {share old : Nat} {l : List Rep} (hok : ∀ r ∈ l, r.ok) : r6 D (.flt .f64 old) (.flt .f64 share) (.list (l.map Rep.v)) [] = some (.bool true, []) := by
  -- at most forty of them
  have cut : ∃ l' : List Rep, l'.length < 2 ^ 62 ∧ (∀ r ∈ l', r.ok) ∧ r6 D (.flt .f64 old) (.flt .f64 share) (.list (l.map Rep.v)) [] = r6 D (.flt .f64 old) (.flt .f64 share) (.list (l'.map Rep.v)) [] ∧ l'.length ≤ 40 := by
    by_cases h : 40 < l.length
    · refine ⟨l.take 40, by simp; omega, fun r hr => hok r (List.mem_of_mem_take hr), ?_, by simp; omega⟩
      have h1 : evSlice Tryz.prog 66 (.list (l.map Rep.v)) none (some (.int .i64 40)) = some (.list ((l.take 40).map Rep.v)) := by
        simp [evSlice, evBnd, List.map_take]; omega
      unfold r6
      simp only [view_list, len66, Option.bind_some, evBn_int, true_or, if_true, evInt_gtr, condK_bool, h1]
      have h2 : (40 : Int) < (l.length : Int) := by omega
      have h3 : ¬ (40 : Int) < ((l.take 40).length : Int) := by simp; omega
      simp only [h2, h3, decide_true, decide_false, if_true, Bool.false_eq_true, if_false, Option.bind_some, List.getD_cons_zero, List.getD_cons_succ]
    · exact ⟨l, by omega, hok, rfl, by omega⟩
  obtain ⟨l', hl, hok', he, h40⟩ := cut
  rw [he]
  clear he hok l
  unfold r6
  have h3 : ¬ (40 : Int) < (l'.length : Int) := by omega
  simp only [view_list, len66, Option.bind_some, evBn_int, true_or, if_true, evInt_gtr, condK_bool, h3, decide_false, Bool.false_eq_true, if_false, List.getD_cons_zero, List.getD_cons_succ, r6_tail hl hok', wantS]
  simp only [reduceIte, List.getD_cons_zero, List.getD_cons_succ, view_list, view_int, view_flt, r49_spec hl hok', Option.bind_some, view_tup, views_cons, views_nil, view_bool, extractV, extractRest, List.getElem?_cons_zero, List.getElem?_cons_succ, List.set_cons_zero, List.set_cons_succ, List.getD_cons_zero, lenE66, evBn_int, true_or, if_true, evInt_lss, condK_bool]
  by_cases h2 : (l'.length : Int) < 2
  · simp [h2, r42, r53_spec hl, r52_spec, evBn_bool_eql isBool_4]
  · have g0 : 0 < l'.length := by omega
    have g1 : 1 < l'.length := by omega
    have i0 := ix66 (l := l') g0
    have i1 := ix66 (l := l') g1
    have o0 := hok' _ (List.getElem_mem g0)
    have o1 := hok' _ (List.getElem_mem g1)
    simp only [Int.ofNat_zero, Int.ofNat_one, Int.natCast_zero, Int.natCast_one] at i0 i1
    simp only [h2, decide_false, Bool.false_eq_true, if_false, i0, i1, Option.bind_some, le62, Rep.view_v, aheads_cons, Rep.ahead_v, aheads_nil, Bool.and_self, if_true, r50_spec _ _ o0 o1, List.isEmpty_nil, f62_0, f62_1, f62_2, f62_3, f62_4, le3, le60, view_int, view_flt, view_bool, evInt_eql, ahead_flt, r51_spec o0.1 o1.1, r51_spec o0.2 o1.2, evBn_bool_eql isBool_4]
    generalize l'[0] = A at *
    generalize l'[1] = B at *
    by_cases k1 : A.used = B.used <;> by_cases k2 : A.room = B.room <;> by_cases k3 : A.keys = B.keys <;> by_cases k4 : A.fill = B.fill <;> simp [k1, k2, k3, k4, sameRep, r42, r53_spec hl, r52_spec, evBn_bool_eql isBool_4]

end Go.R
