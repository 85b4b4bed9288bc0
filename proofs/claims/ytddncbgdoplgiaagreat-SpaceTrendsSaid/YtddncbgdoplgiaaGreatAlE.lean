import Derived.Test.YtddncbgdoplgiaaGreatAlD
namespace Go.AL
open Go.RowKit

/-! ### What the type tables say -/
def tyS (P : Program) (t : TypeId) : Option (Bool × Nat) :=
  match P.info? t, P.underlying t with
  | some i, some (.struct _) => some (true, i.size)
  | some i, some (.array _ _) => some (true, i.size)
  | some i, some _ => some (false, i.size)
  | _, _ => none
def fldS (P : Program) (t : TypeId) (i : Nat) : Option (Nat × TypeId) :=
  match P.underlying t with
  | some (.struct fs) => (fs[i]?).map fun f => (f.offset, f.type)
  | _ => none
def arrS (P : Program) (t : TypeId) : Option (Nat × TypeId) :=
  match P.underlying t with
  | some (.array n e) => some (n, e)
  | _ => none
def slcS (P : Program) (t : TypeId) : Option TypeId :=
  match P.underlying t with
  | some (.slice e) => some e
  | _ => none
def kindS (P : Program) (t : TypeId) : Option IntKind :=
  match P.underlying t with
  | some (.int k) => some k
  | _ => none
def isStrT (P : Program) (t : TypeId) : Bool := P.underlying t matches some .string

section
variable {P : Program} {ρ : List Nat} {K : Nat → Nat} {w : World}

theorem tyS_spec {t : TypeId} {b : Bool} {n : Nat} (h : tyS P t = some (b, n)) : (isAgg t).run P w = .ok b w ∧ (sizeOf t).run P w = .ok n w ∧ P.cellsOf t = n := by
  unfold tyS at h
  split at h <;> cases h
  all_goals
    rename_i hi hu
    refine ⟨?_, ?_, by simp [Program.cellsOf, hi]⟩
    · simp only [isAgg, Sem.run_bind, run_underlying hu, Result.andThen_ok]; first | rfl | (split <;> simp_all)
    · simp [sizeOf, typeInfo, hi]

theorem fldS_spec {t : TypeId} {i off : Nat} {ft : TypeId} (h : fldS P t i = some (off, ft)) : ∃ fs f, P.underlying t = some (.struct fs) ∧ fs[i]? = some f ∧ f.offset = off ∧ f.type = ft := by
  unfold fldS at h
  split at h
  · rename_i fs hu
    cases hf : fs[i]? with
    | none => simp [hf] at h
    | some f =>
      simp only [hf, Option.map_some] at h
      injection h with h; injection h with h1 h2
      exact ⟨fs, f, hu, hf, h1, h2⟩
  · cases h

theorem arrS_spec {t : TypeId} {n : Nat} {e : TypeId} (h : arrS P t = some (n, e)) : P.underlying t = some (.array n e) := by
  unfold arrS at h
  split at h
  · rename_i hu; injection h with h; injection h with h1 h2; subst h1 h2; exact hu
  · cases h
theorem slcS_spec {t e : TypeId} (h : slcS P t = some e) : P.underlying t = some (.slice e) := by
  unfold slcS at h
  split at h
  · rename_i hu; injection h with h; subst h; exact hu
  · cases h
theorem kindS_spec {t : TypeId} {k : IntKind} (h : kindS P t = some k) : P.underlying t = some (.int k) := by
  unfold kindS at h
  split at h
  · rename_i hu; injection h with h; subst h; exact hu
  · cases h
theorem isStrT_spec {t : TypeId} (h : isStrT P t = true) : P.underlying t = some .string := by
  unfold isStrT at h
  split at h
  · assumption
  · cases h

theorem VR_of_VR0 {v : V} {x : Value} {r : List Nat} (h : VR0 ρ K w v x r) : VR ρ K w v x r := by
  revert h
  refine VR.cases (P := fun u => VR0 ρ K w u x r → VR ρ K w u x r) v ?_ ?_ (fun v hv h => by rw [hv]; exact h)
  · rintro ⟨_, cs, h2, _⟩
    cases cs with
    | nil => simp [V.flat, CRs] at h2
    | cons c cs => obtain ⟨_, _, _, h4, _⟩ := h2; cases h4
  · rintro vs ⟨_, cs, h2, _⟩
    cases cs with
    | nil => simp [V.flat, CRs] at h2
    | cons c cs => obtain ⟨_, _, _, h4, _⟩ := h2; cases h4

theorem CRs_one {v : V} {cs : List Value} {r : List Nat} (h : CRs ρ K w v.flat cs r) (ha : v.isAgg = false) : ∃ c, cs = [c] := by
  have hf : v.flat.length = 1 := by cases v <;> simp_all [V.flat, V.isAgg]
  have := h.length
  rw [hf] at this
  exact List.length_eq_one_iff.1 this

/-- a part of an aggregate value -/
theorem run_part {t : TypeId} {cs : List Value} {off : Nat} {x : V} {r : List Nat} (ht : tyS P t = some (x.isAgg, x.size)) (hw : x.wf)
    (hc : CRs ρ K w x.flat ((cs.drop off).take x.size) r) : ∃ y, (part t cs.toArray off).run P w = .ok y w ∧ VR0 ρ K w x y r := by
  obtain ⟨h1, h2, _⟩ := tyS_spec (w := w) ht
  cases ha : x.isAgg with
  | true =>
    refine ⟨.agg ((cs.drop off).take x.size).toArray, ?_, hw, _, hc, by simp [V.mk, ha]⟩
    rw [ha] at h1
    simp only [part, Sem.run_bind, h1, Result.andThen_ok, if_true, h2, Sem.run_pure]
    simp [List.take_drop]
  | false =>
    obtain ⟨c, hcs⟩ := CRs_one hc ha
    refine ⟨c, ?_, hw, [c], by rw [← hcs]; exact hc, by simp [V.mk, ha]⟩
    rw [ha] at h1
    have hg : cs[off]? = some c := by
      have : ((cs.drop off).take x.size)[0]? = some c := by rw [hcs]; rfl
      have hsz : x.size = 1 := by
        have := flat_length x hw
        cases x <;> simp_all [V.flat, V.isAgg, V.size]
      rw [hsz] at this
      simpa using this
    simp [part, Sem.run_bind, h1, hg]

/-! ### unary, conversions, parts -/
def evUn (op : UnOp) (x : V) : Option V :=
  match op, x with
  | .neg, .int k n => some (.int k (k.wrap (0 - n)))
  | .not, .bool b => some (.bool (!b))
  | .xor, .int k n => some (.int k (k.wrap (BitVec.ofInt k.bits (if k.signed then -1 else k.max) ^^^ BitVec.ofInt k.bits n).toNat))
  | _, _ => none

theorem evUn_run {op : UnOp} {u v : V} {x : Value} {rx : List Nat} (h : evUn op u = some v) (hx : VR ρ K w u x rx) :
    ∃ z, (Op.unary op x).run P w = .ok z w ∧ VR ρ K w v z [] := by
  unfold evUn at h
  split at h <;> cases h
  · obtain ⟨rfl, _⟩ := VR_int hx; exact ⟨_, by simp [Op.unary, Op.intArith], VR_mkInt _ _⟩
  · obtain ⟨rfl, _⟩ := VR_bool hx; exact ⟨_, by simp [Op.unary], VR_mkBool _⟩
  · obtain ⟨rfl, _⟩ := VR_int hx; exact ⟨_, by simp only [Op.unary, Op.intBits, Sem.run_pure], VR_mkInt _ _⟩

/-- the bytes of a list of bytes -/
def V.byte? : V → Option UInt8
  | .int .u8 n => some (UInt8.ofNat n.toNat)
  | _ => none
def V.bytes? (xs : List V) : Option (List UInt8) := xs.mapM V.byte?
/-- bytes as a list's elements -/
def V.ofBytes (s : List UInt8) : List V := s.map fun b => .int .u8 b.toNat

theorem bytes_ofBytes (s : List UInt8) : V.bytes? (V.ofBytes s) = some s := by
  induction s with
  | nil => rfl
  | cons b s ih =>
    simp only [V.bytes?, V.ofBytes] at *
    simp only [List.map_cons, List.mapM_cons, ih]
    simp [V.byte?]

def evConv (P : Program) (s d : TypeId) (x : V) : Option V :=
  match x with
  | .int _ n => (kindS P d).bind fun k => if (P.underlying s).isSome then some (.int k (k.wrap n)) else none
  | .str b => if isStrT P d && (P.underlying s).isSome then some (.str b) else none
  | .list xs | .own _ _ xs =>
    if isStrT P d && (slcS P s).any (fun e => kindS P e == some .u8) then (V.bytes? xs).map .str else none
  | _ => none

theorem bytes?_flats {xs : List V} {b : List UInt8} (h : V.bytes? xs = some b) : V.flats xs = xs ∧ ∀ (i : Nat) u, xs[i]? = some u → ∃ n, u = .int .u8 n ∧ b[i]? = some (UInt8.ofNat n.toNat) := by
  induction xs generalizing b with
  | nil => simp [V.bytes?] at h; subst h; exact ⟨rfl, by simp⟩
  | cons x xs ih =>
    simp only [V.bytes?, List.mapM_cons] at h
    cases hx : V.byte? x with
    | none => simp [hx] at h
    | some c =>
      cases hxs : List.mapM V.byte? xs with
      | none => simp [hx, hxs] at h
      | some cs =>
        simp [hx, hxs] at h
        subst h
        obtain ⟨h1, h2⟩ := ih (by simpa [V.bytes?] using hxs)
        cases x <;> simp [V.byte?] at hx
        rename_i k n
        cases k <;> simp at hx
        subst hx
        refine ⟨by simp [V.flats, V.flat, h1], fun i u hu => ?_⟩
        cases i with
        | zero => simp at hu; subst hu; exact ⟨n, rfl, by simp⟩
        | succ i => simpa using h2 i u (by simpa using hu)

theorem bytes?_length {xs : List V} {b : List UInt8} (h : V.bytes? xs = some b) : b.length = xs.length := by
  induction xs generalizing b with
  | nil => simp [V.bytes?] at h; subst h; rfl
  | cons x xs ih =>
    simp only [V.bytes?, List.mapM_cons] at h
    cases hx : V.byte? x with
    | none => simp [hx] at h
    | some c =>
      cases hxs : List.mapM V.byte? xs with
      | none => simp [hx, hxs] at h
      | some cs =>
        simp [hx, hxs] at h
        subst h
        simp [ih (by simpa [V.bytes?] using hxs)]

theorem foldl_push (ns : List Int) (s : List UInt8) : ns.foldl (fun (r : ByteArray) n => r.push (UInt8.ofNat n.toNat)) ⟨s.toArray⟩ = ⟨(s ++ ns.map fun n => UInt8.ofNat n.toNat).toArray⟩ := by
  induction ns generalizing s with
  | nil => simp
  | cons n ns ih =>
    simp only [List.foldl_cons]
    have : ByteArray.push ⟨s.toArray⟩ (UInt8.ofNat n.toNat) = ⟨(s ++ [UInt8.ofNat n.toNat]).toArray⟩ := by
      simp [ByteArray.push]
    rw [this, ih]; simp

/-- a list of bytes, read as a string -/
theorem run_bytes {xs : List V} {b : List UInt8} {x : Value} {r : List Nat} {v : V} (hv : v.elems? = some xs) (h : V.bytes? xs = some b) (hx : VR ρ K w v x r) :
    (Conv.bytesToString x).run P w = .ok (.string ⟨b.toArray⟩) w ∧ ∃ a n c, x = .slice a n c := by
  rcases VR_slice hv hx with ⟨a, c, rfl, rfl⟩ | ⟨bl, off, c, k, vs, rfl, hc, hw, hk, hcr, hs⟩
  · simp [V.bytes?] at h; subst h
    refine ⟨?_, _, _, _, rfl⟩
    cases a with
    | none => rfl
    | some a => exact run_bytesToString (P := P) w a 0 c [] (by simp [loadCells, loadCellsFrom])
  · refine ⟨?_, _, _, _, rfl⟩
    obtain ⟨hf, hb⟩ := bytes?_flats h
    have hlen := bytes?_length h
    rw [hf] at hcr hs
    have hns : ∃ ns : List Int, ns.length = xs.length ∧ (∀ (i : Nat) n, ns[i]? = some n → vs i = .int .u8 n) ∧ b = ns.map fun n => UInt8.ofNat n.toNat := by
      refine ⟨xs.map fun u => match u with | .int _ n => n | _ => 0, by simp, fun i n hn => ?_, ?_⟩
      · simp only [List.getElem?_map, Option.map_eq_some_iff] at hn
        obtain ⟨u, hu, rfl⟩ := hn
        obtain ⟨m, rfl, _⟩ := hb i u hu
        have := hcr i _ hu
        generalize vs i = y at this
        cases this; rfl
      · apply List.ext_getElem?
        intro i
        by_cases hi : i < xs.length
        · obtain ⟨m, h1, h2⟩ := hb i xs[i] (by simp [hi])
          rw [h2]; simp [hi, h1]
        · rw [List.getElem?_eq_none (by omega), List.getElem?_eq_none (by simpa using hi)]
    obtain ⟨ns, h1, h2, rfl⟩ := hns
    have hload : (loadCells (⟨bl, off, none⟩ : Addr) xs.length).run P w = .ok (ns.map (Value.int .u8)).toArray w := by
      rw [← h1]
      have := run_loadCells_list (P := P) w ⟨bl, off, none⟩ (ns.map (Value.int .u8)) (fun j v hj => by
        simp only [List.getElem?_map, Option.map_eq_some_iff] at hj
        obtain ⟨n, hn, rfl⟩ := hj
        have hlt : j < xs.length := by rw [← h1]; exact (List.getElem?_eq_some_iff.1 hn).1
        have := (hs j hlt).1
        rw [h2 j n hn] at this
        rw [← this]
        simp only [Addr.add]
        split
        · rename_i h0; subst h0; rfl
        · rfl)
      simpa using this
    rw [run_bytesToString (P := P) w _ _ c ns hload]
    have := foldl_push ns []
    simp only [List.nil_append] at this
    rw [show ByteArray.empty = (⟨([] : List UInt8).toArray⟩ : ByteArray) from rfl, this]

theorem evConv_run {s d : TypeId} {u v : V} {x : Value} {rx : List Nat} (h : evConv P s d u = some v) (hx : VR ρ K w u x rx) :
    ∃ z, (convert s d x).run P w = .ok z w ∧ VR ρ K w v z [] := by
  unfold evConv at h
  split at h
  · obtain ⟨rfl, _⟩ := VR_int hx
    cases hk : kindS P d with
    | none => simp [hk] at h
    | some k =>
      simp only [hk, Option.bind_some] at h
      split at h
      · rename_i hs
        injection h with h; subst h
        obtain ⟨sd, hsd⟩ := Option.isSome_iff_exists.1 hs
        refine ⟨_, ?_, VR_mkInt _ _⟩
        simp [convert, run_underlying (kindS_spec hk), run_underlying hsd, Conv.intToInt]
      · cases h
  · obtain ⟨rfl, _⟩ := VR_str hx
    split at h
    · rename_i hs
      injection h with h; subst h
      simp only [Bool.and_eq_true] at hs
      obtain ⟨sd, hsd⟩ := Option.isSome_iff_exists.1 hs.2
      refine ⟨_, ?_, VR_mkStr _⟩
      simp [convert, run_underlying (isStrT_spec hs.1), run_underlying hsd]
    · cases h
  all_goals
    first
    | cases h; done
    | (split at h
       · rename_i hs
         simp only [Bool.and_eq_true] at hs
         cases he : slcS P s with
         | none => simp [he] at hs
         | some e =>
           simp only [he, Option.any_some, beq_iff_eq] at hs
           rename_i xs
           cases hb : V.bytes? xs with
           | none => simp [hb] at h
           | some b =>
             simp only [hb, Option.map_some, Option.some.injEq] at h
             subst h
             obtain ⟨h1, a, n, c, rfl⟩ := run_bytes (P := P) rfl hb hx
             refine ⟨_, ?_, VR_mkStr b⟩
             rw [run_convert_bytes_string w s d e a n c (slcS_spec he) (kindS_spec hs.2) (isStrT_spec hs.1), h1]
       · cases h)

def evField (P : Program) (t : TypeId) (u : V) (i : Nat) : Option V :=
  match u with
  | .agg fs => (fldS P t i).bind fun f => (fs[i]?).bind fun x => if V.sizes (fs.take i) = f.1 ∧ tyS P f.2 = some (x.isAgg, x.size) then some x.view else none
  | _ => none

theorem evField_run {t : TypeId} {u v : V} {i : Nat} {x : Value} {rx : List Nat} (h : evField P t u i = some v) (hx : VR ρ K w u x rx) :
    ∃ z, (Instr.field t x i).run P w = .ok z w ∧ VR ρ K w v z [] := by
  unfold evField at h
  split at h
  · rename_i fs
    cases hf : fldS P t i with
    | none => simp [hf] at h
    | some f =>
      cases hxi : fs[i]? with
      | none => simp [hf, hxi] at h
      | some y =>
        simp only [hf, hxi, Option.bind_some] at h
        split at h
        · rename_i hc
          injection h with h; subst h
          obtain ⟨cs, rfl, hw, hcr⟩ := VR_agg hx
          obtain ⟨r', _, hp⟩ := hcr.part hw hxi
          obtain ⟨fs', f', hu, hg, ho, hty⟩ := fldS_spec (off := f.1) (ft := f.2) hf
          rw [hc.1] at hp
          obtain ⟨z, h1, h2⟩ := run_part (P := P) hc.2 (wfs_get hxi hw) hp
          refine ⟨z, ?_, VR_of_VR0 h2.view⟩
          simp [Instr.field, run_underlying hu, hg, asAgg, ho, hty, h1]
        · cases h
  · cases h

def evIndex (P : Program) (t : TypeId) (u : V) (i : V) : Option V :=
  match u, i with
  | .arr n k xs, .int _ j =>
    (arrS P t).bind fun a => if a.1 = n ∧ 0 ≤ j ∧ j < n then (xs[j.toNat]?).bind fun x => if tyS P a.2 = some (x.isAgg, k) then some x.view else none else none
  | .str s, .int _ j => if isStrT P t ∧ 0 ≤ j then (s[j.toNat]?).map fun b => .int .u8 b.toNat else none
  | _, _ => none

theorem evIndex_run {t : TypeId} {u v vi : V} {x i : Value} {rx ri : List Nat} (h : evIndex P t u vi = some v) (hx : VR ρ K w u x rx) (hi : VR ρ K w vi i ri) :
    ∃ z, (Instr.index t x i).run P w = .ok z w ∧ VR ρ K w v z [] := by
  unfold evIndex at h
  split at h
  · rename_i n k xs kk j
    obtain ⟨rfl, _⟩ := VR_int hi
    cases ha : arrS P t with
    | none => simp [ha] at h
    | some a =>
      simp only [ha, Option.bind_some] at h
      split at h
      · rename_i hc
        cases hxi : xs[j.toNat]? with
        | none => simp [hxi] at h
        | some y =>
          simp only [hxi, Option.bind_some] at h
          split at h
          · rename_i ht
            injection h with h; subst h
            obtain ⟨cs, rfl, hl, hw, hk, hcr⟩ := VR_arr hx
            obtain ⟨r', _, hp⟩ := hcr.part hw hxi
            have hjl : j.toNat < xs.length := (List.getElem?_eq_some_iff.1 hxi).1
            rw [sizes_take_const hk (by omega)] at hp
            have hyk : y.size = k := hk y (List.mem_of_getElem? hxi)
            rw [hyk] at hp
            rw [← hyk] at ht
            have hp' : CRs ρ K w y.flat ((cs.drop (j.toNat * k)).take y.size) r' := by rw [hyk]; exact hp
            obtain ⟨z, h1, h2⟩ := run_part (P := P) ht (wfs_get hxi hw) hp'
            obtain ⟨_, hsz, _⟩ := tyS_spec (w := w) ht
            refine ⟨z, ?_, VR_of_VR0 h2.view⟩
            have hu := arrS_spec (n := a.1) (e := a.2) ha
            rw [hyk] at hsz
            have hc2 : 0 ≤ j ∧ j < (a.1 : Int) := by rw [hc.1]; exact hc.2
            simp [Instr.index, asIntOf, run_underlying hu, hc2, hsz, h1]
          · cases h
      · cases h
  · rename_i s kk j
    obtain ⟨rfl, _⟩ := VR_int hi
    obtain ⟨rfl, _⟩ := VR_str hx
    split at h
    · rename_i hc
      cases hb : s[j.toNat]? with
      | none => simp [hb] at h
      | some b =>
        simp only [hb, Option.map_some] at h
        injection h with h; subst h
        refine ⟨_, ?_, VR_mkInt _ _⟩
        have hu := isStrT_spec hc.1
        have hg : (ByteArray.mk s.toArray)[j.toNat]? = some b := by
          have hlt : j.toNat < s.length := (List.getElem?_eq_some_iff.1 hb).1
          have : j.toNat < (ByteArray.mk s.toArray).size := by simpa [ByteArray.size] using hlt
          rw [getElem?_pos (ByteArray.mk s.toArray) j.toNat this]
          have := (List.getElem?_eq_some_iff.1 hb).2
          simp only [Option.some.injEq]
          exact this
        simp [Instr.index, asIntOf, run_underlying hu, hc.2, hg]
    · cases h
  · cases h

end
end Go.AL
