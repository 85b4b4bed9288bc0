import Derived.Test.YtddncbgdoplgiaaGreatAlNt
import Derived.Laws.FloatArith
import Derived.Laws.StructEq
namespace Go.AL
open Go.RowKit

section
variable {P : Program} {C : Ctx} {S : AS} {a : Act} {w w' : World} {G : Gh} {ρ : List Nat} {K : Nat → Nat}

/-! ### floats -/
def mkNan (k : FloatKind) (r : Option Nat) : V := .flt k (r.getD nanMark)
def ordF (k : FloatKind) (a b : Nat) : Option Ordering := if a = nanMark ∨ b = nanMark then none else k.format.order a b
def evFlt (op : BinOp) (k : FloatKind) (a b : Nat) : Option V :=
  match op with
  | .add | .sub | .mul | .quo => some (mkNan k (if a = nanMark ∨ b = nanMark then none else floatBits op k a b))
  | .eql => some (.bool (ordF k a b == some .eq))
  | .neq => some (.bool (ordF k a b != some .eq))
  | .lss => some (.bool (ordF k a b == some .lt))
  | .leq => some (.bool (ordF k a b == some .lt || ordF k a b == some .eq))
  | .gtr => some (.bool (ordF k a b == some .gt))
  | .geq => some (.bool (ordF k a b == some .gt || ordF k a b == some .eq))
  | _ => none

theorem order_nan {k : FloatKind} {x y : Nat} (h : (k.decode x).isNaN = true ∨ (k.decode y).isNaN = true) : k.format.order x y = none := by
  unfold Ieee.Format.order
  simp only [FloatKind.decode] at h
  generalize k.format.read x = u at *
  generalize k.format.read y = v at *
  cases u <;> cases v <;> simp_all [Ieee.Datum.order, Ieee.Datum.isNaN]

theorem floatBits_nan {op : BinOp} {k : FloatKind} {x y : Nat} (h : (k.decode x).isNaN = true ∨ (k.decode y).isNaN = true) : floatBits op k x y = none := by
  simp only [FloatKind.decode] at h
  unfold floatBits
  split <;> simp only [Ieee.Format.add, Ieee.Format.sub, Ieee.Format.mul, Ieee.Format.div] <;>
    (generalize k.format.read x = u at *
     generalize k.format.read y = v at *
     cases u <;> cases v <;> simp_all [Ieee.Datum.sum, Ieee.Datum.product, Ieee.Datum.quotient, Ieee.Datum.isNaN, Ieee.Datum.opposite])

/-- two floats that stand for these -/
def FR (k : FloatKind) (a a' : Nat) : Prop := (a ≠ nanMark ∧ a' = a) ∨ (a = nanMark ∧ (k.decode a').isNaN = true)

theorem ordF_eq {k : FloatKind} {a b a' b' : Nat} (ha : FR k a a') (hb : FR k b b') : ordF k a b = k.format.order a' b' := by
  unfold ordF
  rcases ha with ⟨h1, rfl⟩ | ⟨rfl, h1⟩
  · rcases hb with ⟨h2, rfl⟩ | ⟨rfl, h2⟩
    · simp [h1, h2]
    · simp [order_nan (.inr h2)]
  · simp [order_nan (.inl h1)]

theorem fbits_eq {op : BinOp} {k : FloatKind} {a b a' b' : Nat} (ha : FR k a a') (hb : FR k b b') : (if a = nanMark ∨ b = nanMark then none else floatBits op k a b) = floatBits op k a' b' := by
  rcases ha with ⟨h1, rfl⟩ | ⟨rfl, h1⟩
  · rcases hb with ⟨h2, rfl⟩ | ⟨rfl, h2⟩
    · simp [h1, h2]
    · simp [floatBits_nan (.inr h2)]
  · simp [floatBits_nan (.inl h1)]

theorem nan64 (t : Nat) : (FloatKind.f64.decode ((t % 2) * 2 ^ 63 + 0x7ff0000000000000 + 1 + (t / 2) % (2 ^ 52 - 1))).isNaN = true := by
  have h1 : FloatKind.f64.format.infRung = 9218868437227405312 := by decide
  have h2 : FloatKind.f64.format.signWeight = 9223372036854775808 := by decide
  have h3 : FloatKind.f64.format.binade = 4503599627370496 := by decide
  unfold FloatKind.decode Ieee.Format.read
  rw [h1, h2, h3]
  have hr : ((t % 2) * 2 ^ 63 + 0x7ff0000000000000 + 1 + (t / 2) % (2 ^ 52 - 1)) % 9223372036854775808 = 9218868437227405312 + 1 + (t / 2) % (2 ^ 52 - 1) := by omega
  simp only [hr]
  have : t / 2 % (2 ^ 52 - 1) < 2 ^ 52 - 1 := Nat.mod_lt _ (by decide)
  rw [if_neg (by omega), if_neg (by omega), if_neg (by omega)]
  rfl

theorem nan32 (t : Nat) : (FloatKind.f32.decode ((t % 2) * 2 ^ 31 + 0x7f800000 + 1 + (t / 2) % (2 ^ 23 - 1))).isNaN = true := by
  have h1 : FloatKind.f32.format.infRung = 2139095040 := by decide
  have h2 : FloatKind.f32.format.signWeight = 2147483648 := by decide
  have h3 : FloatKind.f32.format.binade = 8388608 := by decide
  unfold FloatKind.decode Ieee.Format.read
  rw [h1, h2, h3]
  have hr : ((t % 2) * 2 ^ 31 + 0x7f800000 + 1 + (t / 2) % (2 ^ 23 - 1)) % 2147483648 = 2139095040 + 1 + (t / 2) % (2 ^ 23 - 1) := by omega
  simp only [hr]
  have : t / 2 % (2 ^ 23 - 1) < 2 ^ 23 - 1 := Nat.mod_lt _ (by decide)
  rw [if_neg (by omega), if_neg (by omega), if_neg (by omega)]
  rfl

theorem nan_cut {t : Nat} {q : Question} {k : FloatKind} (hq : (∃ x y, q = .nanBits k x y) ∨ ∃ m x y, q = .nanMinMax k m x y) : (k.decode (q.cut t)).isNaN = true ∧ q.forced = false := by
  rcases hq with ⟨x, y, rfl⟩ | ⟨m, x, y, rfl⟩ <;> cases k <;> refine ⟨?_, by simp [Question.forced]⟩ <;> simp only [Question.cut]
  · exact nan32 t
  · exact nan64 t
  · exact nan32 t
  · exact nan64 t

theorem VR_mkFlt {k : FloatKind} {r : Nat} (h : (Lit.float k r).wf = true) : VR ρ K w (.flt k r) (.float k r) [] := by
  refine VR.of_cell (.flt k r fun e => ?_)
  have h1 : r < 2 ^ 64 := by
    cases k
    · have : r < 2 ^ 32 := by simpa [Lit.wf] using h
      omega
    · simpa [Lit.wf] using h
  omega

/-- a result in a slot behind a draw -/
theorem OpA.pureD {o : Oper} {d : Nat} {v : V} (ho : o.dst = some d) (hd : d < S.n)
    (h : ∀ a w G, Rel C S a w G → ∃ x w', (w' = w ∨ w' = w.drew) ∧ (execOp a.eval o).run P w = .ok (.value x) w' ∧ VR G.ρ G.K w' v x []) : OpA P C o S (· = S.put d v) := by
  intro a w G next Q hR hn
  obtain ⟨x, w', hw, h1, h2⟩ := h a w G hR
  unfold Oper.wp
  rw [h1, Oper.upon_value, ho]
  rcases hw with rfl | rfl
  · exact hn _ _ _ _ rfl (hR.put0 hd h2)
  · exact hn _ _ _ _ rfl (hR.drew.put0 hd h2)

theorem evFlt_run {op : BinOp} {t yt : TypeId} {x y : Operand} {e : Operand → Value} {k : FloatKind} {a b a' b' : Nat} {r : V} {o : Oper} (ho : o.op = .binOp op t x y yt) (h : evFlt op k a b = some r)
    (hx : e x = .float k a') (hy : e y = .float k b') (ha : FR k a a') (hb : FR k b b') : ∃ z w', (w' = w ∨ w' = w.drew) ∧ (execOp e o).run P w = .ok (.value z) w' ∧ VR ρ K w' r z [] := by
  have ar : ∀ op', (op' = op) → (op = .add ∨ op = .sub ∨ op = .mul ∨ op = .quo) → r = mkNan k (floatBits op k a' b') → ∃ z w', (w' = w ∨ w' = w.drew) ∧ (execOp e o).run P w = .ok (.value z) w' ∧ VR ρ K w' r z [] := by
    intro op' _ hop hr
    have hg : (eqGuard op t x y (e x) (e y)).run P w = .ok () w := by rcases hop with rfl | rfl | rfl | rfl <;> simp [eqGuard]
    have hbin : (binOp op t (e x) (e y)).run P w = (Op.floatArith op k a' b').run P w := by rw [hx, hy]; rcases hop with rfl | rfl | rfl | rfl <;> simp [binOp]
    cases hf : floatBits op k a' b' with
    | some r0 =>
      have hfa : (Op.floatArith op k a' b').run P w = .ok (.float k r0) w := by
        unfold floatBits at hf
        rcases hop with rfl | rfl | rfl | rfl <;> simp only at hf <;> simp [Op.floatArith, hf]
      refine ⟨.float k r0, w, .inl rfl, by simp [execOp, ho, hg, hbin, hfa], ?_⟩
      rw [hr, hf]
      exact VR_mkFlt (floatBits_wf hf)
    | none =>
      have hq := nan_cut (t := w.tape w.drawn (.nanBits k a' b')) (q := .nanBits k a' b') (k := k) (.inl ⟨_, _, rfl⟩)
      have hfa : (Op.floatArith op k a' b').run P w = .ok (.float k ((Question.nanBits k a' b').cut (w.tape w.drawn (.nanBits k a' b')))) w.drew := by
        unfold floatBits at hf
        rcases hop with rfl | rfl | rfl | rfl <;> simp only at hf <;> simp [Op.floatArith, hf, run_choose_drew, hq.2]
      refine ⟨_, w.drew, .inr rfl, by simp [execOp, ho, hg, hbin, hfa]; rfl, ?_⟩
      rw [hr, hf]
      exact VR.of_cell (.nan k _ hq.1)
  have cm : ∀ c : Bool, (Op.floatCmp op k a' b').run P w = .ok (.bool c) w → (binOp op t (e x) (e y)).run P w = (Op.floatCmp op k a' b').run P w → r = .bool c → ∃ z w', (w' = w ∨ w' = w.drew) ∧ (execOp e o).run P w = .ok (.value z) w' ∧ VR ρ K w' r z [] := by
    intro c h1 h2 hr
    have hg : (eqGuard op t x y (e x) (e y)).run P w = .ok () w := by rw [hx, hy]; cases op <;> simp [eqGuard]
    exact ⟨.bool c, w, .inl rfl, by simp [execOp, ho, hg, h2, h1], hr ▸ VR_mkBool c⟩
  have ho' := ordF_eq ha hb
  unfold evFlt at h
  split at h <;> first | (injection h with h; subst h) | cases h
  · exact ar .add rfl (by simp) (by rw [fbits_eq ha hb])
  · exact ar .sub rfl (by simp) (by rw [fbits_eq ha hb])
  · exact ar .mul rfl (by simp) (by rw [fbits_eq ha hb])
  · exact ar .quo rfl (by simp) (by rw [fbits_eq ha hb])
  all_goals exact cm _ (by simp only [Op.floatCmp, Sem.run_pure, ho']) (by rw [hx, hy]; simp only [binOp, ne_eq, not_true_eq_false, if_false]) rfl

/-! min, max -/
def evMm (mx : Bool) (v u : V) : Option V :=
  match v, u with
  | .flt k x, .flt k' y => if k = k' then
      some (if x = nanMark ∨ y = nanMark then .flt k nanMark else match k.format.order x y with
        | none => .flt k nanMark
        | some .lt => .flt k (if mx then y else x)
        | some .gt => .flt k (if mx then x else y)
        | some .eq => .flt k (if mx then (if (k.decode x).neg then y else x) else (if (k.decode x).neg then x else y)))
    else none
  | v, u => evMinMax mx v u

theorem evMm_run {mx : Bool} {t : Array TypeId} {ty' : TypeId} {u v r : V} {x y : Value} {rx ry : List Nat} (h : evMm mx u v = some r) (hx : VR ρ K w u x rx) (hy : VR ρ K w v y ry) :
    ∃ z w', (w' = w ∨ w' = w.drew) ∧ (if mx then (Builtin.max_ t ty' #[x, y]).run P w else (Builtin.min_ t ty' #[x, y]).run P w) = .ok z w' ∧ VR ρ K w' r z [] := by
  unfold evMm at h
  split at h
  · rename_i k a k' b
    split at h
    · rename_i hk
      subst hk
      injection h with h
      obtain ⟨a', rfl, _, ha⟩ := VR_flt hx
      obtain ⟨b', rfl, _, hb⟩ := VR_flt hy
      have ho := ordF_eq ha hb
      unfold ordF at ho
      have hq := nan_cut (t := w.tape w.drawn (.nanMinMax k mx a' b')) (q := .nanMinMax k mx a' b') (k := k) (.inr ⟨_, _, _, rfl⟩)
      by_cases hm : a = nanMark ∨ b = nanMark
      · rw [if_pos hm] at ho h
        refine ⟨_, w.drew, .inr rfl, ?_, h ▸ VR.of_cell (.nan k _ hq.1)⟩
        cases mx
        · simp only [Bool.false_eq_true, if_false, Builtin.min_]; simp [Builtin.min2, ← ho, run_choose_drew, hq.2]
        · simp only [if_true, Builtin.max_]; simp [Builtin.max2, ← ho, run_choose_drew, hq.2]
      · rw [if_neg hm] at ho h
        have ha' : a ≠ nanMark ∧ a' = a := by rcases ha with h | ⟨h, _⟩; exact h; exact (hm (.inl h)).elim
        have hb' : b ≠ nanMark ∧ b' = b := by rcases hb with h | ⟨h, _⟩; exact h; exact (hm (.inr h)).elim
        obtain ⟨ha1, rfl⟩ := ha'
        obtain ⟨hb1, rfl⟩ := hb'
        cases hord : k.format.order a' b' with
        | none =>
          rw [hord] at h
          simp only at h
          subst h
          refine ⟨_, w.drew, .inr rfl, ?_, VR.of_cell (.nan k _ hq.1)⟩
          cases mx
          · simp only [Bool.false_eq_true, if_false, Builtin.min_]; simp [Builtin.min2, hord, run_choose_drew, hq.2]
          · simp only [if_true, Builtin.max_]; simp [Builtin.max2, hord, run_choose_drew, hq.2]
        | some c =>
          rw [hord] at h
          cases c <;> cases mx <;> simp only [Bool.false_eq_true, if_false, if_true] at h <;> subst h <;>
            refine ⟨_, w, .inl rfl, ?_, VR.of_cell (.flt _ _ ?_)⟩
          all_goals first
            | assumption
            | (simp only [Bool.false_eq_true, if_false, Builtin.min_]; simp [Builtin.min2, hord]; done)
            | (simp only [if_true, Builtin.max_]; simp [Builtin.max2, hord]; done)
            | (split <;> assumption)
    · cases h
  · obtain ⟨z, h1, h2⟩ := evMinMax_run (P := P) (t := t) (ty := t) (ty' := ty') h hx hy
    exact ⟨z, w, .inl rfl, h1, h2⟩

/-! binary operations, all of them -/
def nilSl : V → V → Option Bool
  | .own 0 0 [], .own 0 0 [] => some true
  | .own _ _ (_ :: _), .own 0 0 [] => some false
  | .list (_ :: _), .own 0 0 [] => some false
  | _, _ => none

theorem nilSl_run {t e : TypeId} (ht : P.underlying t = some (.slice e)) {u v : V} {b : Bool} {x y : Value} {rx ry : List Nat} (h : nilSl u v = some b) (hx : VR ρ K w u x rx) (hy : VR ρ K w v y ry) (d : Nat) :
    (Op.equalIn (d + 1) t x y).run P w = .ok b w ∧ ∃ a l c a' l' c', x = .slice a l c ∧ y = .slice a' l' c' := by
  have nil : ∀ {y : Value} {ry : List Nat}, VR ρ K w (.own 0 0 []) y ry → y = .slice none 0 0 := fun {y ry} h => by
    have := h.cell rfl rfl (by simp) (by simp)
    cases this with
    | own0 => rfl
    | own _ b c k vs cells e h0 => exact absurd h0 (by omega)
  unfold nilSl at h
  split at h <;> first | cases h; done | (injection h with h; subst h)
  · rw [nil hx, nil hy]
    exact ⟨by simp [Op.equalIn, run_underlying ht], _, _, _, _, _, _, rfl, rfl⟩
  · rename_i e' k' z zs
    rw [nil hy]
    have := hx.cell rfl rfl (by simp) (by simp)
    cases this with
    | own _ b c k vs cells e h0 => exact ⟨by simp [Op.equalIn, run_underlying ht], _, _, _, _, _, _, rfl, rfl⟩
  · rename_i z zs
    rw [nil hy]
    have := hx.cell rfl rfl (by simp) (by simp)
    cases this with
    | list _ b off c k vs hc => exact ⟨by simp [Op.equalIn, run_underlying ht], _, _, _, _, _, _, rfl, rfl⟩

/-! structs and arrays: are they the same? -/
def eqElems (eq : V → V → Option Bool) : List V → List V → Option Bool
  | [], [] => some true
  | u :: us, v :: vs => (eq u v).bind fun r => if r then eqElems eq us vs else some false
  | _, _ => none
def eqFields (P : Program) (eq : TypeId → V → V → Option Bool) (us vs : List V) : List Field → Nat → Option Bool
  | [], _ => some true
  | f :: fs, i =>
    if f.name = "_" then none else
    match us[i]?, vs[i]? with
    | some a, some b =>
      if V.sizes (us.take i) = f.offset ∧ V.sizes (vs.take i) = f.offset ∧ tyS P f.type = some (a.isAgg, a.size) ∧ tyS P f.type = some (b.isAgg, b.size) then
        (eq f.type a b).bind fun r => if r then eqFields P eq us vs fs (i + 1) else some false
      else none
    | _, _ => none
def evEqT (P : Program) : Nat → TypeId → V → V → Option Bool
  | 0, _, _, _ => none
  | d + 1, t, x, y =>
    match P.underlying t, x, y with
    | some .bool, .bool a, .bool b => some (a == b)
    | some (.int _), .int k a, .int k' b => if k = k' then some (a == b) else none
    | some .string, .str a, .str b => some (decide (a = b))
    | some (.struct fs), .agg us, .agg vs => if P.stoodInHeld t = false then eqFields P (evEqT P d) us vs fs.toList 0 else none
    | some (.array n e), .arr n1 k us, .arr n2 k' vs =>
      if n = n1 ∧ n = n2 ∧ k = k' ∧ (tyS P e).map (·.2) = some k ∧ (us.all fun u => decide (tyS P e = some (u.isAgg, k))) ∧ (vs.all fun u => decide (tyS P e = some (u.isAgg, k))) then eqElems (evEqT P d e) us vs else none
    | _, _, _ => none

theorem evEqT_run : ∀ (d : Nat) (t : TypeId) (u v : V) (b : Bool) (x y : Value) (rx ry : List Nat), evEqT P d t u v = some b → VR ρ K w u x rx → VR ρ K w v y ry → ∀ D, d ≤ D → (Op.equalIn D t x y).run P w = .ok b w
  | 0, _, _, _, _, _, _, _, _, h, _, _, _, _ => by cases h
  | d + 1, t, u, v, b, x, y, rx, ry, h, hx, hy, 0, hD => by omega
  | d + 1, t, u, v, b, x, y, rx, ry, h, hx, hy, D + 1, hD => by
    have ih := evEqT_run d
    unfold evEqT at h
    split at h
    · rename_i ht
      injection h with h; subst h
      obtain ⟨rfl, _⟩ := VR_bool hx
      obtain ⟨rfl, _⟩ := VR_bool hy
      simp [Op.equalIn, run_underlying ht]
    · rename_i ht
      split at h
      · rename_i hk
        injection h with h; subst h
        obtain ⟨rfl, _⟩ := VR_int hx
        obtain ⟨rfl, _⟩ := VR_int hy
        simp [Op.equalIn, run_underlying ht, hk]
      · cases h
    · rename_i a c ht
      injection h with h; subst h
      obtain ⟨rfl, _⟩ := VR_str hx
      obtain ⟨rfl, _⟩ := VR_str hy
      rw [run_equalIn_string w D t _ _ ht]
      simp only [ByteArray.toList_mk]
      by_cases e : a = c <;> simp [e]
    · rename_i fs us vs ht
      split at h
      · rename_i hst
        obtain ⟨xs, rfl, hwx, hcx⟩ := VR_agg hx
        obtain ⟨ys, rfl, hwy, hcy⟩ := VR_agg hy
        have hfo : P.fieldsOf t = fs := by simp [Program.fieldsOf, ht]
        rw [run_equalIn_struct w D t _ _ (by rw [hfo]; exact ht) hst, hfo]
        clear hx hy
        generalize fs.toList = l at h
        have key : ∀ (l : List Field) (i : Nat) (b : Bool), eqFields P (evEqT P d) us vs l i = some b → (Op.eqFields D xs.toArray ys.toArray l).run P w = .ok b w := by
          intro l
          induction l with
          | nil => intro i b h; simp only [eqFields, Option.some.injEq] at h; subst h; rfl
          | cons f l ihl =>
            intro i b h
            simp only [eqFields] at h
            split at h
            · cases h
            · rename_i hname
              split at h
              · rename_i a c ha hc
                split at h
                · rename_i hcond
                  obtain ⟨ho1, ho2, ht1, ht2⟩ := hcond
                  simp only [Option.bind_eq_some_iff] at h
                  obtain ⟨r, hr, h⟩ := h
                  obtain ⟨r1, _, hp1⟩ := hcx.part hwx ha
                  obtain ⟨r2, _, hp2⟩ := hcy.part hwy hc
                  rw [ho1] at hp1
                  rw [ho2] at hp2
                  obtain ⟨z1, g1, g2⟩ := run_part (P := P) ht1 (wfs_get ha hwx) hp1
                  obtain ⟨z2, g3, g4⟩ := run_part (P := P) ht2 (wfs_get hc hwy) hp2
                  have he := ih f.type a c r z1 z2 _ _ hr (VR_of_VR0 g2) (VR_of_VR0 g4) D (by omega)
                  simp only [Op.eqFields, ne_eq, hname, not_false_eq_true, if_true, Sem.run_bind, g1, g3, he, Result.andThen_ok]
                  cases r with
                  | true => simp only [if_true] at h; simpa using ihl (i + 1) b h
                  | false => simp at h; subst h; simp
                · cases h
              · cases h
        exact key l 0 b h
      · cases h
    · rename_i n e n1 k us n2 k' vs ht
      split at h
      · rename_i hcond
        obtain ⟨rfl, rfl, rfl, hk, hau, hav⟩ := hcond
        obtain ⟨xs, rfl, hlx, hwx, hkx, hcx⟩ := VR_arr hx
        obtain ⟨ys, rfl, hly, hwy, hky, hcy⟩ := VR_arr hy
        simp only [Option.map_eq_some_iff] at hk
        obtain ⟨⟨bb, kk⟩, hty, rfl⟩ := hk
        have hsz := (tyS_spec (w := w) hty).2.1
        simp only [List.all_eq_true, decide_eq_true_eq] at hau hav
        simp only [Op.equalIn, Sem.run_bind, run_underlying ht, Result.andThen_ok, hsz]
        rw [Std.Legacy.Range.forIn_eq_forIn_range']
        rw [show (List.range' [:n].start [:n].size [:n].step) = List.range' 0 n 1 from by simp [Std.Legacy.Range.size]]
        have hi : ∃ i m, i + m = n ∧ List.range' 0 n 1 = List.range' i m 1 ∧ eqElems (evEqT P d e) (us.drop i) (vs.drop i) = some b := ⟨0, n, by omega, rfl, by simpa using h⟩
        generalize List.range' 0 n 1 = rng at hi ⊢
        clear h
        induction rng with
        | nil =>
          obtain ⟨i, m, him, hr, h⟩ := hi
          have hm : m = 0 := by
            have := congrArg List.length hr
            simpa using this.symm
          have hu : us.drop i = [] := List.drop_eq_nil_of_le (by omega)
          have hv : vs.drop i = [] := List.drop_eq_nil_of_le (by omega)
          rw [hu, hv] at h
          simp only [eqElems, Option.some.injEq] at h
          subst h
          simp
        | cons j rng ihm =>
          obtain ⟨i, m, him, hr, h⟩ := hi
          cases m with
          | zero => simp at hr
          | succ m =>
          rw [List.range'_succ] at hr
          injection hr with hj hr
          subst hj
          have hiu : j < us.length := by omega
          have hiv : j < vs.length := by omega
          rw [List.drop_eq_getElem_cons hiu, List.drop_eq_getElem_cons hiv] at h
          simp only [eqElems, Option.bind_eq_some_iff] at h
          obtain ⟨r, hr', h⟩ := h
          have hgu : us[j]? = some us[j] := List.getElem?_eq_getElem hiu
          have hgv : vs[j]? = some vs[j] := List.getElem?_eq_getElem hiv
          obtain ⟨r1, _, hp1⟩ := hcx.part hwx hgu
          obtain ⟨r2, _, hp2⟩ := hcy.part hwy hgv
          have hku : us[j].size = kk := hkx _ (List.getElem_mem hiu)
          have hkv : vs[j].size = kk := hky _ (List.getElem_mem hiv)
          have ho1 : V.sizes (us.take j) = j * kk := sizes_take_const (fun x hx => hkx x hx) (by omega)
          have ho2 : V.sizes (vs.take j) = j * kk := sizes_take_const (fun x hx => hky x hx) (by omega)
          rw [ho1] at hp1
          rw [ho2] at hp2
          obtain ⟨z1, g1, g2⟩ := run_part (P := P) (by rw [hku]; exact hau _ (List.getElem_mem hiu)) (wfs_get hgu hwx) hp1
          obtain ⟨z2, g3, g4⟩ := run_part (P := P) (by rw [hkv]; exact hav _ (List.getElem_mem hiv)) (wfs_get hgv hwy) hp2
          have he := ih e us[j] vs[j] r z1 z2 _ _ hr' (VR_of_VR0 g2) (VR_of_VR0 g4) D (by omega)
          rw [List.forIn_cons]
          simp only [Sem.run_bind, g1, g3, he, Result.andThen_ok]
          cases r with
          | true =>
            simp only [if_true] at h
            have := ihm ⟨j + 1, m, by omega, hr, h⟩
            simpa using this
          | false => simp at h; subst h; simp
      · cases h
    · cases h

def eqOp (op : BinOp) (r : Option Bool) : Option V := if op = .eql then r.map .bool else if op = .neq then r.map fun b => .bool (!b) else none

theorem eqOp_some {op : BinOp} {q : Option Bool} {r : V} (h : eqOp op q = some r) : ∃ b, q = some b ∧ ((op = .eql ∧ r = .bool b) ∨ (op = .neq ∧ r = .bool (!b))) := by
  unfold eqOp at h
  split at h
  · simp only [Option.map_eq_some_iff] at h
    obtain ⟨b, hb, rfl⟩ := h
    exact ⟨b, hb, .inl ⟨by assumption, rfl⟩⟩
  · split at h
    · simp only [Option.map_eq_some_iff] at h
      obtain ⟨b, hb, rfl⟩ := h
      exact ⟨b, hb, .inr ⟨by assumption, rfl⟩⟩
    · cases h

def evBn (P : Program) (op : BinOp) (t : TypeId) (x y : V) : Option V :=
  match x, y with
  | .flt k a, .flt k' b => if k = k' then evFlt op k a b else none
  | .agg us, .agg vs => if P.eqGuardType P.depth t = false then eqOp op (evEqT P 20 t (.agg us) (.agg vs)) else none
  | .arr n k us, .arr m l vs => if P.eqGuardType P.depth t = false then eqOp op (evEqT P 20 t (.arr n k us) (.arr m l vs)) else none
  | .own e k xs, y => if (slcS P t).isSome = true then eqOp op (nilSl (.own e k xs) y) else none
  | .list xs, y => if (slcS P t).isSome = true then eqOp op (nilSl (.list xs) y) else none
  | x, y => evBin P op t x y

theorem eq_run {op : BinOp} {t yt : TypeId} {x y : Operand} {e : Operand → Value} {o : Oper} {b : Bool} {r : V} (ho : o.op = .binOp op t x y yt) (hg : (eqGuard op t x y (e x) (e y)).run P w = .ok () w)
    (hshape : (∃ xs ys, e x = .agg xs ∧ e y = .agg ys) ∨ ∃ a l c a' l' c', e x = .slice a l c ∧ e y = .slice a' l' c') (he : (Op.equal t (e x) (e y)).run P w = .ok b w)
    (hop : (op = .eql ∧ r = .bool b) ∨ (op = .neq ∧ r = .bool (!b))) : ∃ z w', (w' = w ∨ w' = w.drew) ∧ (execOp e o).run P w = .ok (.value z) w' ∧ VR ρ K w' r z [] := by
  have hb : (binOp op t (e x) (e y)).run P w = .ok (if op = .eql then .bool b else .bool (!b)) w := by
    rcases hshape with ⟨xs, ys, h1, h2⟩ | ⟨a, l, c, a', l', c', h1, h2⟩ <;> rw [h1, h2] at he ⊢ <;> rcases hop with ⟨rfl, _⟩ | ⟨rfl, _⟩ <;> simp only [binOp] <;> simp [he]
  refine ⟨_, w, .inl rfl, by simp only [execOp, ho, hg, hb, Sem.run_bind, Result.andThen_ok, Sem.run_pure]; rfl, ?_⟩
  rcases hop with ⟨rfl, rfl⟩ | ⟨rfl, rfl⟩
  · exact VR_mkBool _
  · exact VR_mkBool _

theorem evBn_run {op : BinOp} {t yt : TypeId} {x y : Operand} {e : Operand → Value} {u v r : V} {rx ry : List Nat} {o : Oper} (ho : o.op = .binOp op t x y yt) (h : evBn P op t u v = some r)
    (hx : VR ρ K w u (e x) rx) (hy : VR ρ K w v (e y) ry) : ∃ z w', (w' = w ∨ w' = w.drew) ∧ (execOp e o).run P w = .ok (.value z) w' ∧ VR ρ K w' r z [] := by
  have agg : ∀ {us vs : List Value}, e x = .agg us.toArray → e y = .agg vs.toArray → P.eqGuardType P.depth t = false → eqOp op (evEqT P 20 t u v) = some r →
      ∃ z w', (w' = w ∨ w' = w.drew) ∧ (execOp e o).run P w = .ok (.value z) w' ∧ VR ρ K w' r z [] := by
    intro us vs e1 e2 hgt h
    have hg : (eqGuard op t x y (e x) (e y)).run P w = .ok () w := by rw [e1, e2]; exact run_eqGuard_agg w op t x y _ _ hgt
    obtain ⟨b, hb, hop⟩ := eqOp_some h
    exact eq_run ho hg (.inl ⟨_, _, e1, e2⟩) (evEqT_run 20 t u v b _ _ _ _ hb hx hy 10000 (by omega)) hop
  have sl : (slcS P t).isSome = true → eqOp op (nilSl u v) = some r → ∃ z w', (w' = w ∨ w' = w.drew) ∧ (execOp e o).run P w = .ok (.value z) w' ∧ VR ρ K w' r z [] := by
    intro hs h
    obtain ⟨el, hs⟩ := Option.isSome_iff_exists.1 hs
    obtain ⟨b, hb, hop⟩ := eqOp_some h
    obtain ⟨h1, a, l, c, a', l', c', e1, e2⟩ := nilSl_run (slcS_spec hs) hb hx hy 9999
    exact eq_run ho (by rw [e1, e2]; cases op <;> simp [eqGuard]) (.inr ⟨_, _, _, _, _, _, e1, e2⟩) h1 hop
  cases u with
  | flt k a =>
    cases v with
    | flt k' b =>
      simp only [evBn] at h
      split at h
      · rename_i hk
        subst hk
        obtain ⟨a', h1, _, ha⟩ := VR_flt hx
        obtain ⟨b', h2, _, hb⟩ := VR_flt hy
        exact evFlt_run ho h h1 h2 ha hb
      · cases h
    | _ =>
      obtain ⟨z, h1, h2⟩ := evBin_run (P := P) ho (by simpa only [evBn] using h) hx hy
      exact ⟨z, w, .inl rfl, h1, h2⟩
  | agg us =>
    cases v with
    | agg vs =>
      simp only [evBn] at h
      split at h
      · rename_i hgt
        obtain ⟨xs, h1, _⟩ := VR_agg hx
        obtain ⟨ys, h2, _⟩ := VR_agg hy
        exact agg h1 h2 hgt h
      · cases h
    | _ =>
      obtain ⟨z, h1, h2⟩ := evBin_run (P := P) ho (by simpa only [evBn] using h) hx hy
      exact ⟨z, w, .inl rfl, h1, h2⟩
  | arr n k us =>
    cases v with
    | arr m l vs =>
      simp only [evBn] at h
      split at h
      · rename_i hgt
        obtain ⟨xs, h1, _⟩ := VR_arr hx
        obtain ⟨ys, h2, _⟩ := VR_arr hy
        exact agg h1 h2 hgt h
      · cases h
    | _ =>
      obtain ⟨z, h1, h2⟩ := evBin_run (P := P) ho (by simpa only [evBn] using h) hx hy
      exact ⟨z, w, .inl rfl, h1, h2⟩
  | own e k xs =>
    simp only [evBn] at h
    split at h
    · exact sl (by assumption) h
    · cases h
  | list xs =>
    simp only [evBn] at h
    split at h
    · exact sl (by assumption) h
    · cases h
  | _ =>
    obtain ⟨z, h1, h2⟩ := evBin_run (P := P) ho (by simpa only [evBn] using h) hx hy
    exact ⟨z, w, .inl rfl, h1, h2⟩

/-! whole numbers to floats -/
def fltT (P : Program) (t : TypeId) : Option FloatKind := match P.underlying t with | some (.float k) => some k | _ => none
def evCv (P : Program) (s d : TypeId) (x : V) : Option V :=
  match x, fltT P d with
  | .int _ n, some k => if (P.underlying s).isSome then some (.flt k (k.nearest n)) else none
  | x, _ => evConv P s d x

theorem evCv_run {s d : TypeId} {u v : V} {x : Value} {rx : List Nat} (h : evCv P s d u = some v) (hx : VR ρ K w u x rx) : ∃ z, (convert s d x).run P w = .ok z w ∧ VR ρ K w v z [] := by
  unfold evCv at h
  split at h
  · rename_i ik n k hk
    obtain ⟨rfl, _⟩ := VR_int hx
    split at h
    · rename_i hs
      injection h with h; subst h
      obtain ⟨us, hus⟩ := Option.isSome_iff_exists.1 hs
      unfold fltT at hk
      split at hk
      · rename_i hd
        injection hk with hk; subst hk
        refine ⟨_, ?_, VR_mkFlt (encode_wf _ (.number (n < 0) n.natAbs 0))⟩
        cases us <;> simp [convert, run_underlying hus, run_underlying hd, Conv.intToFloat, FloatKind.nearest]
      · cases hk
    · cases h
  · exact evConv_run h hx

/-! natives -/
def isExt (P : Program) (f : FuncId) (name : String) : Bool :=
  match P.funcs[f]? with
  | some fn => fn.body.isNone && (Extern.findNext fn).isNone && fn.name == name
  | none => false

def natV (P : Program) (f : FuncId) (args : List V) : Option V :=
  if isExt P f "math.Float64bits" = true then
    match args with
    | [.flt .f64 b] => if b = nanMark then none else some (.int .u64 b)
    | _ => none
  else if isExt P f "math.Float64frombits" = true then
    match args with
    | [.int .u64 n] => if 0 ≤ n ∧ n < 18446744073709551616 then some (.flt .f64 n.toNat) else none
    | _ => none
  else none

theorem isExt_spec {f : FuncId} {name : String} {e : Array Value → Sem Value} (h : isExt P f name = true) (hne : name ≠ "runtime.NumGoroutine")
    (hfind : ∀ fn : Func, fn.name = name → Extern.find fn = some e) (args : Array Value) (w : World) : (callFunc f args).run P w = ((e args).run P w).andThen fun v w' => .ok (.value v) w' := by
  unfold isExt at h
  split at h
  · rename_i fn hf
    simp only [Bool.and_eq_true, Option.isNone_iff_eq_none, beq_iff_eq] at h
    exact run_callFunc_extern hf (by rw [h.2]; simpa using hne) (by simp [h.1.1]) h.1.2 (hfind fn h.2) args w
  · cases h

theorem find_bits (fn : Func) (h : fn.name = "math.Float64bits") : Extern.find fn = some Extern.MathFloatBits.float64bits := by
  have h1 : Extern.allGenericRows.lookup "math.Float64bits" = none := by kernel_rfl
  have h2 : Extern.allTypedRows.lookup "math.Float64bits" = none := by kernel_rfl
  have h3 : Extern.allRows.lookup "math.Float64bits" = some Extern.MathFloatBits.float64bits := by kernel_rfl
  simp [Extern.find, h, h1, h2, h3]
theorem find_frombits (fn : Func) (h : fn.name = "math.Float64frombits") : Extern.find fn = some Extern.MathFloatBits.float64frombits := by
  have h1 : Extern.allGenericRows.lookup "math.Float64frombits" = none := by kernel_rfl
  have h2 : Extern.allTypedRows.lookup "math.Float64frombits" = none := by kernel_rfl
  have h3 : Extern.allRows.lookup "math.Float64frombits" = some Extern.MathFloatBits.float64frombits := by kernel_rfl
  simp [Extern.find, h, h1, h2, h3]

theorem natV_run {f : FuncId} {args : List V} {v : V} (h : natV P f args = some v) {xs : List Value} (hl : xs.length = args.length) (hx : ∀ (i : Nat) u, args[i]? = some u → ∃ r, VR ρ K w u (xs.getD i undef) r) :
    ∃ z, (callFunc f xs.toArray).run P w = .ok (.value z) w ∧ VR ρ K w v z [] := by
  unfold natV at h
  split at h
  · rename_i he
    split at h
    · rename_i b
      split at h
      · cases h
      · rename_i hb
        injection h with h; subst h
        match xs, hl with
        | [x], _ =>
          obtain ⟨r, hv⟩ := hx 0 _ rfl
          obtain ⟨b', h1, _, h2⟩ := VR_flt hv
          have h1 : x = .float .f64 b' := h1
          rcases h2 with ⟨_, rfl⟩ | ⟨h2, _⟩
          · refine ⟨.int .u64 b', ?_, VR_mkInt _ _⟩
            rw [isExt_spec he (by decide) find_bits, h1]
            rfl
          · exact (hb h2).elim
    · cases h
  · split at h
    · rename_i he
      split at h
      · rename_i n
        split at h
        · rename_i hn
          injection h with h; subst h
          match xs, hl with
          | [x], _ =>
            obtain ⟨r, hv⟩ := hx 0 _ rfl
            obtain ⟨h1, _⟩ := VR_int hv
            have h1 : x = .int .u64 n := h1
            refine ⟨.float .f64 n.toNat, ?_, VR.of_cell (.flt _ _ (by omega))⟩
            rw [isExt_spec he (by decide) find_frombits, h1]
            rfl
        · cases h
      · cases h
    · cases h

end
end Go.AL
