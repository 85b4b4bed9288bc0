import Derived.Test.YtddncbgdoplgiaaGreatAlNf
namespace Go.AL
open Go.RowKit

section
variable {P : Program} {C : Ctx} {S : AS} {a : Act} {w w' : World} {G : Gh} {ρ : List Nat} {K : Nat → Nat}

/-! ### an array's bytes as a string -/
def evConvS (P : Program) (S : AS) (s d : TypeId) (x : V) : Option V :=
  match x with
  | .bsl o off p lo len =>
    if isStrT P d && (slcS P s).any (fun e => kindS P e == some .u8) then (S.src (.bsl o off p lo len)).bind fun ys => (V.bytes? ys).map .str else none
  | x => evCv P s d x

theorem bytes?_sizes {xs : List V} {b : List UInt8} (h : V.bytes? xs = some b) : ∀ y ∈ xs, y.size = 1 := by
  intro y hy
  obtain ⟨i, hi⟩ := List.getElem?_of_mem hy
  obtain ⟨n, rfl, _⟩ := (bytes?_flats h).2 i y hi
  rfl

theorem evConvS_run {s d : TypeId} (hR : Rel C S a w G) {u v : V} {x : Value} {rx : List Nat} (h : evConvS P S s d u = some v) (hx : VR G.ρ G.K w u x rx) :
    ∃ z, (convert s d x).run P w = .ok z w ∧ VR G.ρ G.K w v z [] := by
  unfold evConvS at h
  split at h
  · rename_i o off p lo len
    split at h
    · rename_i hc
      simp only [Option.bind_eq_some_iff, Option.map_eq_some_iff] at h
      obtain ⟨ys, hy, b, hb, rfl⟩ := h
      obtain ⟨hw, news, hnews, hlen, hload⟩ := src_spec (P := P) hR hx hy (k := 1) (bytes?_sizes hb)
      have hl := hload w (fun _ => rfl)
      obtain ⟨bl, c, hbl, hlc, rfl, _⟩ := VR_bsl hx
      simp only [Builtin.firstCells, Nat.mul_one] at hl
      simp only [Builtin.lenOf, Sem.run_pure] at hlen
      have hyl : ys.length = len := by
        injection hlen with hlen; exact hlen.symm
      rw [hyl] at hl
      obtain ⟨hf, hbs⟩ := bytes?_flats hb
      rw [hf] at hnews
      obtain ⟨hnl, hnv⟩ := CRs.nil_iff.1 hnews
      have hnl' : news = (ys.map fun u => match u with | .int _ n => n | _ => 0).map (Value.int .u8) := by
        apply List.ext_getElem?
        intro i
        rcases Nat.lt_or_ge i ys.length with hi | hi
        · obtain ⟨n, hn1, hn2⟩ := hbs i ys[i] (List.getElem?_eq_getElem hi)
          have h3 := hnv i _ (List.getElem?_eq_getElem hi)
          rw [hn1] at h3
          have h4 : news[i]? = some (.int .u8 n) := by
            have hi' : i < news.length := by omega
            rw [List.getElem?_eq_getElem hi']
            simp only [List.getD, List.getElem?_eq_getElem hi', Option.getD_some] at h3
            generalize news[i] = q at h3 ⊢
            cases h3; rfl
          rw [h4]; simp [hi, hn1]
        · rw [List.getElem?_eq_none (by omega), List.getElem?_eq_none (by simpa using hi)]
      have hbe : b = (ys.map fun u => match u with | .int _ n => n | _ => 0).map fun n => UInt8.ofNat n.toNat := by
        have hbl := bytes?_length hb
        apply List.ext_getElem?
        intro i
        rcases Nat.lt_or_ge i ys.length with hi | hi
        · obtain ⟨n, hn1, hn2⟩ := hbs i ys[i] (List.getElem?_eq_getElem hi)
          rw [hn2]; simp [hi, hn1]
        · rw [List.getElem?_eq_none (by omega), List.getElem?_eq_none (by simpa using hi)]
      have h1 := run_bytesToString (P := P) w _ len c _ (hnl' ▸ hl)
      have h2 := foldl_push (ys.map fun u => match u with | .int _ n => n | _ => 0) []
      simp only [List.nil_append] at h2
      rw [show ByteArray.empty = (⟨([] : List UInt8).toArray⟩ : ByteArray) from rfl, h2, ← hbe] at h1
      simp only [Bool.and_eq_true] at hc
      cases he : slcS P s with
      | none => simp [he] at hc
      | some e =>
        simp only [he, Option.any_some, beq_iff_eq] at hc
        refine ⟨_, ?_, VR_mkStr b⟩
        simp [convert, run_underlying (isStrT_spec hc.1), run_underlying (slcS_spec he), run_underlying (kindS_spec hc.2), h1]
    · cases h
  · exact evCv_run h hx

/-! ### closures -/
def V.isCell : V → Bool
  | .agg _ | .arr _ _ _ | .tup _ | .dead => false
  | _ => true

theorem VR.toCR {v : V} {x : Value} {r : List Nat} (hv : v.isCell = true) (h : VR ρ K w v x r) : CR ρ K w v x r := by
  refine h.cell ?_ ?_ ?_ ?_ <;> cases v <;> simp_all [V.isCell, V.flat, V.isAgg]

theorem isCell_view (v : V) : v.view.isCell = v.isCell := by
  cases v <;> first
    | rfl
    | (simp only [V.view]; split <;> rfl)

def evMakeFunc (S : AS) (f : FuncId) (caps : List Operand) : Option V :=
  if caps.all (fun x => (S.ev x).isCell) then some (.fn f (caps.map fun x => (S.ev x).view)) else none

theorem evMakeFunc_run (hR : Rel C S a w G) {f : FuncId} {caps : Array Operand} {v : V} (h : evMakeFunc S f caps.toList = some v) :
    ∃ z, (Instr.makeFunc (.func f) #[] (caps.map a.eval)).run P w = .ok z w ∧ VR G.ρ G.K w v z [] := by
  unfold evMakeFunc at h
  split at h
  · rename_i hall
    injection h with h; subst h
    refine ⟨.func (.func f) #[] (caps.map a.eval), rfl, VR.of_cell ?_⟩
    have : (caps.map a.eval) = (caps.toList.map a.eval).toArray := by simp only [← Array.toList_inj, Array.toList_map]
    rw [this]
    refine .fn f _ _ (by simp) fun i c hc => ?_
    simp only [List.getElem?_map, Option.map_eq_some_iff] at hc
    obtain ⟨x, hx, rfl⟩ := hc
    obtain ⟨r, hv⟩ := hR.ev x
    have hcell := List.all_eq_true.1 hall x (List.mem_of_getElem? hx)
    have := hv.view.toCR (by rw [isCell_view]; exact hcell)
    simpa [List.getD, hx] using this
  · cases h

/-! ### one operation -/
def putD (S : AS) (dst : Option Nat) (v : Option V) : Option AS :=
  match dst with
  | some d => if d < S.n then v.map (S.put d) else none
  | none => none

def withD (S : AS) (dst : Option Nat) (f : Nat → Option AS) : Option AS :=
  match dst with
  | some d => if d < S.n then f d else none
  | none => none

theorem putD_some {dst : Option Nat} {v : Option V} {S' : AS} (h : putD S dst v = some S') : ∃ d u, dst = some d ∧ d < S.n ∧ v = some u ∧ S' = S.put d u := by
  unfold putD at h
  split at h
  · rename_i d
    split at h
    · simp only [Option.map_eq_some_iff] at h
      obtain ⟨u, hu, rfl⟩ := h
      exact ⟨d, u, rfl, by assumption, hu, rfl⟩
    · cases h
  · cases h

theorem withD_some {dst : Option Nat} {f : Nat → Option AS} {S' : AS} (h : withD S dst f = some S') : ∃ d, dst = some d ∧ d < S.n ∧ f d = some S' := by
  unfold withD at h
  split at h
  · split at h
    · exact ⟨_, rfl, by assumption, h⟩
    · cases h
  · cases h

def evPick (S : AS) (c x y : Operand) : Option V :=
  match S.ev c with
  | .bool t => some (if t then (S.ev x).view else (S.ev y).view)
  | _ => none

def evBuiltin (P : Program) (S : AS) (d : Nat) (b : Builtin) (ts : List TypeId) (xs : List Operand) : Option AS :=
  match b, ts, xs with
  | .append, [t, u], [s, x] => evAppend P t u S d s x
  | .len, [t], [x] => (evLen P t S (S.ev x)).map (S.put d)
  | .min, _, [x, y] => (evMm false (S.ev x) (S.ev y)).map (S.put d)
  | .max, _, [x, y] => (evMm true (S.ev x) (S.ev y)).map (S.put d)
  | _, _, _ => none

def isBase (base : Nat → Bool) (d : Option Nat) : Bool := match d with | some d => base d | none => false

def evOp (P : Program) (base : Nat → Bool) (S : AS) (o : Oper) : Option AS :=
  match o.op with
  | .move x => withD S o.dst fun d => if base d then evGive S d x else evMove S d x
  | .assign x => withD S o.dst fun d => evGive S d x
  | .pick c x y => putD S o.dst (evPick S c x y)
  | .alloc e => withD S o.dst fun d => evAlloc P e S d
  | .box _ x => withD S o.dst fun d => evBox S d x
  | .build t parts => putD S o.dst (evBuild P t S.ev parts.toList)
  | .buildSlice t len parts => withD S o.dst fun d => evBuildSlice P t len S d parts.toList
  | .load t x => if isBase base o.dst = true then withD S o.dst fun d => evTake P t S d (S.ev x) else putD S o.dst (evLoad P t S (S.ev x))
  | .store t p x => if o.dst = none then evStore P t S p x else none
  | .nilCheck x => putD S o.dst (evNilCheck (S.ev x))
  | .binOp op t x y _ => putD S o.dst (evBn P op t (S.ev x) (S.ev y))
  | .unOp op _ x => putD S o.dst (evUn op (S.ev x))
  | .convert s t x => putD S o.dst (evConvS P S s t (S.ev x))
  | .makeFunc (.func f) first caps => if first = #[] then putD S o.dst (evMakeFunc S f caps.toList) else none
  | .makeSlice t l c => withD S o.dst fun d => evMakeSlice P t S d l c
  | .slice t x lo hi none => putD S o.dst (evSlice P t (S.ev x) (lo.map S.ev) (hi.map S.ev))
  | .fieldAddr t x f => putD S o.dst (evFieldAddr P t (S.ev x) f)
  | .field t x f => putD S o.dst (evField P t (S.ev x) f)
  | .indexAddr t x i => putD S o.dst (evIndexAddr P t (S.ev x) (S.ev i))
  | .index t x i => putD S o.dst (evIndex P t (S.ev x) (S.ev i))
  | .extract x i => withD S o.dst fun d => evExtract S d x i
  | .makeMap t none => withD S o.dst fun d => some (evMakeMap P t S d)
  | .lookup t x k ok => putD S o.dst (evLookup P t S (S.ev x) (S.ev k) ok)
  | .mapUpdate t m k x => if o.dst = none then evMapUpdate P t S (S.ev m) (S.ev k) (S.ev x) else none
  | .call c =>
    match c.callee with
    | .builtin b => withD S o.dst fun d => evBuiltin P S d b c.argTypes.toList c.args.toList
    | _ => none
  | _ => none

theorem OpA.of_put {o : Oper} {v : Option V} {S' : AS} (h : putD S o.dst v = some S')
    (hr : ∀ a w G u, Rel C S a w G → v = some u → ∃ x, (execOp a.eval o).run P w = .ok (.value x) w ∧ VR G.ρ G.K w u x []) : OpA P C o S (· = S') := by
  obtain ⟨d, u, hdst, hd, hv, rfl⟩ := putD_some h
  exact OpA.pure hdst hd fun a w G hR => hr a w G u hR hv

theorem evBuiltin_sound {o : Oper} {d : Nat} {b : Builtin} {c : Call} {S' : AS} (ho : o.op = .call c) (hc : c.callee = .builtin b) (hdst : o.dst = some d) (hd : d < S.n)
    (h : evBuiltin P S d b c.argTypes.toList c.args.toList = some S') : OpA P C o S (· = S') := by
  obtain ⟨cal, args, tys⟩ := c
  simp only at hc h
  subst hc
  unfold evBuiltin at h
  split at h
  · rename_i t u s x ht hx
    have h1 : tys = #[t, u] := by rw [← Array.toList_inj]; exact ht
    have h2 : args = #[s, x] := by rw [← Array.toList_inj]; exact hx
    subst h1 h2
    exact evAppend_sound ho hdst hd h
  · rename_i t x ht hx
    have h1 : tys = #[t] := by rw [← Array.toList_inj]; exact ht
    have h2 : args = #[x] := by rw [← Array.toList_inj]; exact hx
    subst h1 h2
    simp only [Option.map_eq_some_iff] at h
    obtain ⟨v, hv, rfl⟩ := h
    refine OpA.pure hdst hd fun a w G hR => ?_
    obtain ⟨r, hx⟩ := hR.ev x
    obtain ⟨z, h1, h2⟩ := evLen_run (ty := o.type) hR hx hv
    exact ⟨z, by simp [execOp, ho, resolve, invoke, builtin, h1], h2⟩
  · rename_i x y hx
    have h2 : args = #[x, y] := by rw [← Array.toList_inj]; exact hx
    subst h2
    simp only [Option.map_eq_some_iff] at h
    obtain ⟨v, hv, rfl⟩ := h
    refine OpA.pureD hdst hd fun a w G hR => ?_
    obtain ⟨r, hx⟩ := hR.ev x
    obtain ⟨r', hy⟩ := hR.ev y
    obtain ⟨z, w', hw, h1, h2⟩ := evMm_run (P := P) (t := tys) (ty' := o.type) hv hx hy
    simp only [Bool.false_eq_true, if_false] at h1
    exact ⟨z, w', hw, by simp [execOp, ho, resolve, invoke, builtin, h1], h2⟩
  · rename_i x y hx
    have h2 : args = #[x, y] := by rw [← Array.toList_inj]; exact hx
    subst h2
    simp only [Option.map_eq_some_iff] at h
    obtain ⟨v, hv, rfl⟩ := h
    refine OpA.pureD hdst hd fun a w G hR => ?_
    obtain ⟨r, hx⟩ := hR.ev x
    obtain ⟨r', hy⟩ := hR.ev y
    obtain ⟨z, w', hw, h1, h2⟩ := evMm_run (P := P) (t := tys) (ty' := o.type) hv hx hy
    simp only [if_true] at h1
    exact ⟨z, w', hw, by simp [execOp, ho, resolve, invoke, builtin, h1], h2⟩
  · cases h

theorem evOp_sound {base : Nat → Bool} {o : Oper} {S' : AS} (h : evOp P base S o = some S') : OpA P C o S (· = S') := by
  unfold evOp at h
  split at h
  · rename_i x ho
    obtain ⟨d, hdst, hd, h⟩ := withD_some h
    split at h
    · exact evGive_sound (.inr ho) hdst hd h
    · exact evMove_sound ho hdst hd h
  · rename_i x ho
    obtain ⟨d, hdst, hd, h⟩ := withD_some h
    exact evGive_sound (.inl ho) hdst hd h
  · rename_i c x y ho
    refine OpA.of_put h fun a w G u hR hu => ?_
    unfold evPick at hu
    split at hu
    · rename_i t ht
      injection hu with hu; subst hu
      obtain ⟨rc, hc⟩ := hR.ev c
      rw [ht] at hc
      obtain ⟨hc, _⟩ := VR_bool hc
      obtain ⟨rx, hx⟩ := hR.ev x
      obtain ⟨ry, hy⟩ := hR.ev y
      refine ⟨if t then a.eval x else a.eval y, by cases t <;> simp [execOp, ho, hc, asBool], ?_⟩
      cases t
      · exact hy.view
      · exact hx.view
    · cases hu
  · rename_i e ho
    obtain ⟨d, hdst, hd, h⟩ := withD_some h
    exact evAlloc_sound ho hdst hd h
  · rename_i e x ho
    obtain ⟨d, hdst, hd, h⟩ := withD_some h
    exact evBox_sound ho hdst hd h
  · rename_i t parts ho
    refine OpA.of_put h fun a w G u hR hu => ?_
    obtain ⟨z, h1, h2⟩ := evBuild_run (P := P) hu (e := a.eval) (fun x => hR.ev x)
    have hp : (parts.map fun (x : Nat × Operand) => match x with | (i, x) => (i, a.eval x)) = (parts.toList.map fun q => (q.1, a.eval q.2)).toArray := by simp only [← Array.toList_inj, Array.toList_map]
    exact ⟨z, by simp only [execOp, ho, hp]; simp [h1], h2⟩
  · rename_i t len parts ho
    obtain ⟨d, hdst, hd, h⟩ := withD_some h
    exact evBuildSlice_sound ho hdst hd h
  · rename_i t x ho
    split at h
    · obtain ⟨d, hdst, hd, h⟩ := withD_some h
      exact evTake_sound ho hdst hd h
    · refine OpA.of_put h fun a w G u hR hu => ?_
      obtain ⟨r, hx⟩ := hR.ev x
      obtain ⟨z, h1, h2⟩ := evLoad_run (P := P) hR hx hu
      exact ⟨z, by simp [execOp, ho, h1], h2⟩
  · rename_i t p x ho
    split at h
    · exact evStore_sound ho (by assumption) h
    · cases h
  · rename_i x ho
    refine OpA.of_put h fun a w G u hR hu => ?_
    obtain ⟨r, hx⟩ := hR.ev x
    unfold evNilCheck at hu
    split at hu
    · rename_i hv
      injection hu with hu; subst hu
      rw [hv] at hx
      obtain ⟨b, hb, he, _⟩ := VR_ptr hx
      exact ⟨_, by simp [execOp, ho, he], he ▸ hx.view⟩
    · rename_i hv
      injection hu with hu; subst hu
      rw [hv] at hx
      obtain ⟨b, off, vs, he, _⟩ := VR_elem hx
      exact ⟨_, by simp [execOp, ho, he], he ▸ hx.view⟩
    · cases hu
  · rename_i op t x y yt ho
    obtain ⟨d, u, hdst, hd, hv, rfl⟩ := putD_some h
    refine OpA.pureD hdst hd fun a w G hR => ?_
    obtain ⟨r, hx⟩ := hR.ev x
    obtain ⟨r', hy⟩ := hR.ev y
    exact evBn_run ho hv hx hy
  · rename_i op t x ho
    refine OpA.of_put h fun a w G u hR hu => ?_
    obtain ⟨r, hx⟩ := hR.ev x
    obtain ⟨z, h1, h2⟩ := evUn_run (P := P) hu hx
    exact ⟨z, by simp [execOp, ho, h1], h2⟩
  · rename_i s t x ho
    refine OpA.of_put h fun a w G u hR hu => ?_
    obtain ⟨r, hx⟩ := hR.ev x
    obtain ⟨z, h1, h2⟩ := evConvS_run (P := P) hR hu hx
    exact ⟨z, by simp [execOp, ho, h1], h2⟩
  · rename_i f first caps ho
    split at h
    · rename_i hf
      subst hf
      refine OpA.of_put h fun a w G u hR hu => ?_
      obtain ⟨z, h1, h2⟩ := evMakeFunc_run (P := P) hR hu
      exact ⟨z, by simp [execOp, ho, h1], h2⟩
    · cases h
  · rename_i t l c ho
    obtain ⟨d, hdst, hd, h⟩ := withD_some h
    exact evMakeSlice_sound ho hdst hd h
  · rename_i t x lo hi ho
    refine OpA.of_put h fun a w G u hR hu => ?_
    obtain ⟨r, hx⟩ := hR.ev x
    obtain ⟨z, h1, h2⟩ := evSlice_run (P := P) (xlo := lo.map a.eval) (xhi := hi.map a.eval) hu hx
      (fun u hu => by
        simp only [Option.map_eq_some_iff] at hu
        obtain ⟨y, rfl, rfl⟩ := hu
        obtain ⟨r, hy⟩ := hR.ev y
        exact ⟨_, r, rfl, hy⟩) (fun hl => by simpa using hl)
      (fun u hu => by
        simp only [Option.map_eq_some_iff] at hu
        obtain ⟨y, rfl, rfl⟩ := hu
        obtain ⟨r, hy⟩ := hR.ev y
        exact ⟨_, r, rfl, hy⟩) (fun hl => by simpa using hl)
    exact ⟨z, by simp [execOp, ho, h1], h2⟩
  · rename_i t x f ho
    refine OpA.of_put h fun a w G u hR hu => ?_
    obtain ⟨r, hx⟩ := hR.ev x
    obtain ⟨z, h1, h2⟩ := evFieldAddr_run (P := P) hu hx
    exact ⟨z, by simp [execOp, ho, h1], h2⟩
  · rename_i t x f ho
    refine OpA.of_put h fun a w G u hR hu => ?_
    obtain ⟨r, hx⟩ := hR.ev x
    obtain ⟨z, h1, h2⟩ := evField_run (P := P) hu hx
    exact ⟨z, by simp [execOp, ho, h1], h2⟩
  · rename_i t x i ho
    refine OpA.of_put h fun a w G u hR hu => ?_
    obtain ⟨r, hx⟩ := hR.ev x
    obtain ⟨r', hi⟩ := hR.ev i
    obtain ⟨z, h1, h2⟩ := evIndexAddr_run (P := P) hu hx hi
    exact ⟨z, by simp [execOp, ho, h1], h2⟩
  · rename_i t x i ho
    refine OpA.of_put h fun a w G u hR hu => ?_
    obtain ⟨r, hx⟩ := hR.ev x
    obtain ⟨r', hi⟩ := hR.ev i
    obtain ⟨z, h1, h2⟩ := evIndex_run (P := P) hu hx hi
    exact ⟨z, by simp [execOp, ho, h1], h2⟩
  · rename_i x i ho
    obtain ⟨d, hdst, hd, h⟩ := withD_some h
    exact evExtract_sound ho hdst hd h
  · rename_i t ho
    obtain ⟨d, hdst, hd, h⟩ := withD_some h
    injection h with h; subst h
    exact evMakeMap_sound ho hdst hd
  · rename_i t x k ok ho
    refine OpA.of_put h fun a w G u hR hu => ?_
    obtain ⟨r, hx⟩ := hR.ev x
    obtain ⟨r', hk⟩ := hR.ev k
    obtain ⟨z, h1, h2⟩ := evLookup_run (P := P) hR hx hk hu
    exact ⟨z, by simp [execOp, ho, h1], h2⟩
  · rename_i t m k x ho
    split at h
    · exact evMapUpdate_sound ho (by assumption) h
    · cases h
  · rename_i c ho
    split at h
    · rename_i b hc
      obtain ⟨d, hdst, hd, h⟩ := withD_some h
      exact evBuiltin_sound ho hc hdst hd h
    · cases h
  · cases h

end
end Go.AL
