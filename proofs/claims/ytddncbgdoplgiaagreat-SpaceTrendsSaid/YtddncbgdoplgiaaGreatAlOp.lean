import Derived.Test.YtddncbgdoplgiaaGreatAlSp
import Derived.ProofKit
import Derived.OpenShut
import Derived.ShutString
import Derived.ChangeOld
import Derived.Below
namespace Go.AL
open Go.RowKit Go.ChangeShapes Go.WideShapes

section
variable {P : Program} {H : Type} {enc : TypeId × Value → H} {w : World} {base : Nat} {spare : Nat → Bool} {held : Bool}

/-! ### the opening: what is read as data is a value -/
/-- all cells of a block are settled -/
def Kall (w : World) (b : Nat) : Nat := match w.heap[b]? with | some (.cells cs _ _) => cs.size | _ => 0

theorem Kall_lt {b off : Nat} {v : Value} (h : w.cell? ⟨b, off, none⟩ = some v) : off < Kall w b := by
  unfold World.cell? at h
  unfold Kall
  split at h
  · rename_i c _ _ hc
    simp only at hc
    simp only [hc]
    simp only [Option.isSome_none, Bool.false_eq_true, if_false] at h
    exact (Array.getElem?_eq_some_iff.1 h).1
  · cases h

/-- values of a type of plain data -/
def TyV (P : Program) : Nat → TypeId → V → Prop
  | 0, _, _ => False
  | d + 1, t, v =>
    match P.underlying t with
    | some .bool => ∃ b, v = .bool b
    | some (.int k) => ∃ n, v = .int k n ∧ (Lit.int k n).wf = true
    | some (.float k) => ∃ b, v = .flt k b ∧ (Lit.float k b).wf = true
    | some .string => ∃ s, v = .str s ∧ s.length ≤ maxLen
    | some (.slice e) => ∃ xs, v = .list xs ∧ xs.length ≤ maxLen ∧ ∀ x ∈ xs, TyV P d e x
    | some (.struct fs) => ∃ us, v = .agg us ∧ us.length = fs.size ∧ ∀ (i : Nat) (f : Field) (u : V), fs[i]? = some f → us[i]? = some u → TyV P d f.type u
    | some (.array n e) => ∃ us, v = .arr n (P.cellsOf e) us ∧ us.length = n ∧ ∀ u ∈ us, TyV P d e u
    | _ => False

def layF (P : Program) : List Field → Nat → Nat → Bool
  | [], o, n => o == n
  | f :: fs, o, n => f.offset == o && layF P fs (o + P.cellsOf f.type) n

/-- plain data, laid out one behind the other -/
def layB (P : Program) : Nat → TypeId → Bool
  | 0, _ => false
  | d + 1, t =>
    match P.underlying t with
    | some .bool | some (.int _) | some (.float _) | some .string => P.cellsOf t == 1
    | some (.slice e) => P.cellsOf t == 1 && layB P d e && decide (0 < P.cellsOf e)
    | some (.struct fs) => layF P fs.toList 0 (P.cellsOf t) && fs.toList.all fun f => layB P d f.type
    | some (.array n e) => layB P d e && P.cellsOf t == n * P.cellsOf e
    | _ => false

/-- what a value is to its cells -/
structure OpenV (P : Program) (w : World) (d : Nat) (t : TypeId) (v : V) (cs : List Value) : Prop where
  ty : TyV P d t v
  wf : v.wf
  size : v.size = P.cellsOf t
  rel : CRs [] (Kall w) w v.flat cs []
  ahead : v.ahead 0 = true

theorem CRs_one' {v : V} {c : Value} (hf : v.flat = [v]) (h : CR [] (Kall w) w v c []) : CRs [] (Kall w) w v.flat [c] [] := by
  rw [hf]; exact ⟨[], [], rfl, h, rfl⟩

theorem CRs_app {a b : List V} {c1 c2 : List Value} {K : Nat → Nat} (h1 : CRs [] K w a c1 []) (h2 : CRs [] K w b c2 []) : CRs [] K w (a ++ b) (c1 ++ c2) [] := by
  simpa using h1.append h2

theorem open_trod : ∀ (d : Nat) (t : TypeId) (fuel : Nat) (cs : List Value) (x : DataW H × List MemPlace), layB P d t = true → DataW.trod enc P w base spare held fuel t cs = some x → ∃ v, OpenV P w d t v cs
  | 0, t, _, _, _, hl, _ => by cases hl
  | d + 1, t, fuel, cs, x, hl, h => by
    have ih := open_trod d
    unfold layB at hl
    split at hl
    · rename_i ht
      obtain ⟨b, rfl, _⟩ := DataW.trod_bool ht h
      exact ⟨.bool b, ⟨by simp only [TyV, ht]; exact ⟨b, rfl⟩, by simp [V.wf], by simpa [V.size] using (by simpa using hl : P.cellsOf t = 1).symm, CRs_one' rfl (.bool b), rfl⟩⟩
    · rename_i k ht
      obtain ⟨n, rfl, _, hw⟩ := DataW.trod_int ht h
      exact ⟨.int k n, ⟨by simp only [TyV, ht]; exact ⟨n, rfl, hw⟩, by simp [V.wf], by simpa [V.size] using (by simpa using hl : P.cellsOf t = 1).symm, CRs_one' rfl (.int k n), rfl⟩⟩
    · rename_i k ht
      have hf : ∃ b, cs = [.float k b] ∧ (Lit.float k b).wf = true := by
        cases fuel with
        | zero => simp [DataW.trod] at h
        | succ n =>
          unfold DataW.trod at h
          rw [ht] at h
          split at h <;> simp_all
      obtain ⟨b, rfl, hw⟩ := hf
      have hne : b ≠ 18446744073709551616 := by
        have h1 : b < 2 ^ 64 := by
          cases k
          · have : b < 2 ^ 32 := by simpa [Lit.wf] using hw
            omega
          · simpa [Lit.wf] using hw
        omega
      exact ⟨.flt k b, ⟨by simp only [TyV, ht]; exact ⟨b, rfl, hw⟩, by simp [V.wf], by simpa [V.size] using (by simpa using hl : P.cellsOf t = 1).symm, CRs_one' rfl (.flt k b hne), rfl⟩⟩
    · rename_i ht
      obtain ⟨s, rfl, _, hs⟩ := DataW.trod_string ht h
      refine ⟨.str s.data.toList, ⟨by simp only [TyV, ht]; exact ⟨_, rfl, (show s.data.toList.length ≤ maxLen from hs)⟩, by simp [V.wf], by simpa [V.size] using (by simpa using hl : P.cellsOf t = 1).symm, CRs_one' rfl ?_, rfl⟩⟩
      have := CR.str (ρ := []) (K := Kall w) (w := w) s.data.toList
      simpa using this
    · rename_i e ht
      simp only [Bool.and_eq_true, beq_iff_eq, decide_eq_true_eq] at hl
      obtain ⟨⟨h1, he⟩, hp⟩ := hl
      rcases DataW.trod_slice ht h with ⟨rfl, _⟩ | ⟨a, len, cap, elems, rest, n, _, rfl, _, _, hlc, hcm, hlen, hel, _⟩
      · exact ⟨.list [], ⟨by simp only [TyV, ht]; exact ⟨[], rfl, Nat.zero_le _, by simp⟩, by simp [V.wf], by simp [V.size, h1], CRs_one' rfl (.list0 none 0), rfl⟩⟩
      · -- each element
        have each : ∀ i, i < len → ∃ v cs', w.cells? base (a.add (i * P.cellsOf e)) (P.cellsOf e) = some cs' ∧ OpenV P w d e v cs' := fun i hi => by
          have h2 := hel i hi
          rw [List.getElem?_eq_getElem (by omega)] at h2
          simp only [Option.bind_eq_some_iff] at h2
          obtain ⟨cs', hc, h3⟩ := h2
          obtain ⟨v, hv⟩ := ih e n cs' _ he h3
          exact ⟨v, cs', hc, hv⟩
        by_cases hz : len = 0
        · subst hz
          exact ⟨.list [], ⟨by simp only [TyV, ht]; exact ⟨[], rfl, Nat.zero_le _, by simp⟩, by simp [V.wf], by simp [V.size, h1], CRs_one' rfl (.list0 _ _), rfl⟩⟩
        · have hspot : a.spot = none := by
            obtain ⟨v, cs', hc, _⟩ := each 0 (by omega)
            obtain ⟨_, hl', hg⟩ := World.cells?_some hc
            have := hg 0 hp
            simp only [Nat.zero_mul, Addr.add, if_true] at this
            rw [List.getElem?_eq_getElem (by omega)] at this
            exact World.cell?_spot this
          obtain ⟨b, off, spot⟩ := a
          simp only at hspot
          subst hspot
          have hadd : ∀ o n, (⟨b, o, none⟩ : Addr).add n = ⟨b, o + n, none⟩ := fun o n => addr_add b o n
          -- the list of values
          have hlist : ∀ m, m ≤ len → ∃ (xs : List V) (ccs : List Value), xs.length = m ∧ (∀ x ∈ xs, TyV P d e x ∧ x.wf ∧ x.size = P.cellsOf e ∧ x.ahead 0 = true) ∧ CRs [] (Kall w) w (V.flats xs) ccs [] ∧ ccs.length = m * P.cellsOf e ∧
              ∀ i, i < m * P.cellsOf e → w.cell? ⟨b, off + i, none⟩ = ccs[i]? := by
            intro m
            induction m with
            | zero => intro _; exact ⟨[], [], rfl, by simp, rfl, by simp, by simp⟩
            | succ m ihm =>
              intro hm
              obtain ⟨xs, ccs, g1, g2, g3, g4, g5⟩ := ihm (by omega)
              obtain ⟨v, cs', hc, hv⟩ := each m (by omega)
              obtain ⟨_, hl', hg⟩ := World.cells?_some hc
              refine ⟨xs ++ [v], ccs ++ cs', by simp [g1], ?_, ?_, ?_, ?_⟩
              · intro x hx
                rcases List.mem_append.1 hx with hx | hx
                · exact g2 x hx
                · simp only [List.mem_singleton] at hx; subst hx; exact ⟨hv.ty, hv.wf, hv.size, hv.ahead⟩
              · rw [flats_append]
                exact CRs_app g3 (by simpa [V.flats] using hv.rel)
              · simp only [List.length_append, g4, hl', Nat.add_mul, Nat.one_mul]
              · intro i hi
                rw [List.getElem?_append, g4]
                split
                · exact g5 i (by assumption)
                · rename_i hge
                  have h4 := hg (i - m * P.cellsOf e) (by rw [Nat.add_mul] at hi; omega)
                  rw [hadd, hadd] at h4
                  rw [← h4]
                  congr 2
                  omega
          obtain ⟨xs, ccs, g1, g2, g3, g4, g5⟩ := hlist len (Nat.le_refl _)
          have hwx : V.wfs xs := wfs_iff.2 fun x hx => (g2 x hx).2.1
          have hfl : (V.flats xs).length = len * P.cellsOf e := by
            rw [flats_length xs hwx, sizes_const (fun x hx => (g2 x hx).2.2.1), g1]
          obtain ⟨g6, g7⟩ := CRs.nil_iff.1 g3
          refine ⟨.list xs, ⟨by simp only [TyV, ht]; exact ⟨xs, rfl, by omega, fun x hx => (g2 x hx).1⟩, by simp [V.wf], by simp [V.size, h1], CRs_one' rfl ?_, ?_⟩⟩
          · refine CR_list_of (k := P.cellsOf e) (vs := fun i => ccs.getD i undef) (by omega) hwx (fun x hx => (g2 x hx).2.2.1) g7 (fun i hi => ?_) g1.symm
            have h5 := g5 i (by omega)
            have hi' : i < ccs.length := by omega
            rw [List.getElem?_eq_getElem hi'] at h5
            simp only [List.getD, List.getElem?_eq_getElem hi', Option.getD_some]
            exact ⟨h5, Kall_lt h5⟩
          · simp only [V.ahead]; exact aheads_iff.2 fun x hx => (g2 x hx).2.2.2
    · rename_i fs ht
      simp only [Bool.and_eq_true] at hl
      obtain ⟨hlay, hall⟩ := hl
      obtain ⟨ys, n, _, _, hcl, hyl, hfld⟩ := DataW.trod_struct ht h
      -- field by field
      have key : ∀ (l : List Field) (o : Nat), layF P l o (P.cellsOf t) = true → (∀ f ∈ l, layB P d f.type = true ∧ ∃ y, DataW.trod enc P w base spare held n f.type ((cs.drop f.offset).take (P.cellsOf f.type)) = some y) →
          ∃ us : List V, us.length = l.length ∧ (∀ (i : Nat) f u, l[i]? = some f → us[i]? = some u → TyV P d f.type u) ∧ V.wfs us ∧ V.sizes us + o = P.cellsOf t ∧ CRs [] (Kall w) w (V.flats us) (cs.drop o) [] ∧ V.aheads 0 us = true := by
        intro l
        induction l with
        | nil =>
          intro o ho _
          have ho : o = P.cellsOf t := by simpa [layF] using ho
          refine ⟨[], rfl, by simp, trivial, by simp [V.sizes, ho], ?_, rfl⟩
          rw [List.drop_eq_nil_of_le (by omega)]; rfl
        | cons f l ihl =>
          intro o ho hf
          simp only [layF, Bool.and_eq_true, beq_iff_eq] at ho
          obtain ⟨ho1, ho2⟩ := ho
          obtain ⟨hb, y, hy⟩ := hf f (by simp)
          obtain ⟨u, hu⟩ := ih f.type n _ y hb hy
          obtain ⟨us, k1, k2, k3, k4, k5, k6⟩ := ihl (o + P.cellsOf f.type) ho2 fun g hg => hf g (by simp [hg])
          refine ⟨u :: us, by simp [k1], ?_, ⟨hu.wf, k3⟩, ?_, ?_, by simp [hu.ahead, k6]⟩
          · intro i g v hg hv
            cases i with
            | zero => simp at hg hv; subst hg hv; exact hu.ty
            | succ i => exact k2 i g v (by simpa using hg) (by simpa using hv)
          · simp only [V.sizes, hu.size]; omega
          · have := CRs_app hu.rel k5
            simp only [V.flats]
            rw [ho1] at this
            rwa [← List.drop_drop, List.take_append_drop] at this
      obtain ⟨us, k1, k2, k3, k4, k5, k6⟩ := key fs.toList 0 hlay fun f hf => by
        refine ⟨List.all_eq_true.1 hall f hf, ?_⟩
        obtain ⟨i, hi⟩ := List.getElem?_of_mem hf
        have hi2 : fs[i]? = some f := by simpa using hi
        have hlt : i < ys.length := by rw [hyl]; exact (Array.getElem?_eq_some_iff.1 hi2).1
        have := hfld i f hi2
        rw [List.getElem?_eq_getElem hlt] at this
        exact ⟨_, this⟩
      refine ⟨.agg us, ⟨?_, by simpa [V.wf] using k3, by simp only [V.size]; omega, by simpa [V.flat] using k5, by simpa using k6⟩⟩
      simp only [TyV, ht]
      exact ⟨us, rfl, by simpa using k1, fun i f u hf hu => k2 i f u (by simpa using hf) hu⟩
    · rename_i n e ht
      simp only [Bool.and_eq_true, beq_iff_eq] at hl
      obtain ⟨he, hc⟩ := hl
      obtain ⟨ys, m, _, _, hcl, hyl, hel⟩ := DataW.trod_array ht h
      have key : ∀ k, k ≤ n → ∃ us : List V, us.length = k ∧ (∀ u ∈ us, TyV P d e u ∧ u.wf ∧ u.size = P.cellsOf e ∧ u.ahead 0 = true) ∧ CRs [] (Kall w) w (V.flats us) (cs.take (k * P.cellsOf e)) [] := by
        intro k
        induction k with
        | zero => intro _; exact ⟨[], rfl, by simp, by simp; rfl⟩
        | succ k ihk =>
          intro hk
          obtain ⟨us, g1, g2, g3⟩ := ihk (by omega)
          have h2 := hel k (by omega)
          rw [List.getElem?_eq_getElem (by omega)] at h2
          obtain ⟨u, hu⟩ := ih e m _ _ he h2
          refine ⟨us ++ [u], by simp [g1], ?_, ?_⟩
          · intro x hx
            rcases List.mem_append.1 hx with hx | hx
            · exact g2 x hx
            · simp only [List.mem_singleton] at hx; subst hx; exact ⟨hu.ty, hu.wf, hu.size, hu.ahead⟩
          · rw [flats_append]
            have := CRs_app g3 (show CRs [] (Kall w) w (V.flats [u]) _ [] by simpa [V.flats] using hu.rel)
            have e1 : cs.take ((k + 1) * P.cellsOf e) = cs.take (k * P.cellsOf e) ++ (cs.drop (k * P.cellsOf e)).take (P.cellsOf e) := by
              rw [Nat.add_mul, Nat.one_mul, List.take_add]
            rw [e1]; exact this
      obtain ⟨us, g1, g2, g3⟩ := key n (Nat.le_refl _)
      have hwx : V.wfs us := wfs_iff.2 fun x hx => (g2 x hx).2.1
      refine ⟨.arr n (P.cellsOf e) us, ⟨?_, ?_, ?_, ?_, ?_⟩⟩
      · simp only [TyV, ht]
        exact ⟨us, rfl, g1, fun u hu => (g2 u hu).1⟩
      · simp only [V.wf]; exact ⟨g1, hwx, fun x hx => (g2 x hx).2.2.1⟩
      · simp only [V.size]; exact hc.symm
      · simp only [V.flat]
        rw [← hc, ← hcl, List.take_length] at g3
        exact g3
      · simp only [V.ahead]; exact aheads_iff.2 fun x hx => (g2 x hx).2.2.2
    · cases hl

/-! ### from a function's judgement to a call's -/
theorem OpenV.vr {d : Nat} {t : TypeId} {u : V} {x : Value} (h : OpenV P w d t u x.cells.toList) (hx : isAggV x = u.isAgg) : VR [] (Kall w) w u x [] := by
  have hne : ∀ vs, u ≠ .tup vs := fun vs e => by
    have := h.rel
    subst e
    simp only [V.flat] at this
    generalize x.cells.toList = cs at this
    cases cs with
    | nil => simp [CRs] at this
    | cons c cs => obtain ⟨_, _, _, h4, _⟩ := this; cases h4
  have hnd : u ≠ .dead := fun e => by
    have := h.rel
    subst e
    simp only [V.flat] at this
    generalize x.cells.toList = cs at this
    cases cs with
    | nil => simp [CRs] at this
    | cons c cs => obtain ⟨_, _, _, h4, _⟩ := this; cases h4
  have h0 : VR0 [] (Kall w) w u x [] := by
    refine ⟨h.wf, x.cells.toList, h.rel, ?_⟩
    unfold V.mk
    cases ha : u.isAgg with
    | true =>
      rw [ha] at hx
      cases x <;> simp [isAggV] at hx
      simp [Value.cells]
    | false =>
      rw [ha] at hx
      cases x <;> simp [isAggV] at hx <;> simp [Value.cells]
  revert h0
  refine VR.cases (P := fun u => u ≠ .dead → (∀ vs, u ≠ .tup vs) → VR0 [] (Kall w) w u x [] → VR [] (Kall w) w u x []) u (fun h => absurd rfl h) (fun vs _ h => absurd rfl (h vs)) (fun v hv _ _ h => by rw [hv]; exact h) hnd hne

theorem calls_of_FnA {f : Nat} {us : List V} {args : Array Value} {W : World} (hsz : args.size = us.length) (hvr : ∀ (j : Nat) (u : V), us[j]? = some u → VR [] (Kall W) W u (args.getD j undef) [])
    (h : FnA P f us [] fun v _ => v = .bool true) : Calls P f args W fun e w' => e = .returned (.bool true) ∧ Below W.heap.size W w' := by
  let C : Ctx := { w0 := W, K0 := Kall W, prot := fun b => b < W.heap.size, ρ0 := [] }
  let G : Gh := { ρ := [], K := Kall W, R := fun _ => [], T := fun _ => [], ow := fun _ => none }
  have hR : Rel C (AS.args us []) { tmps := args, defers := [] } C.w0 G := by
    refine { defs := rfl, tsz := hsz, slots := fun j => ?_, slotsOw := fun j b hb => (by cases hb), slotsNd := fun j => List.nodup_nil, len := rfl, obs := fun i ob b hi => (by simp [AS.args] at hi), obsOw := fun i b hb => (by cases hb), obsNd := fun i => List.nodup_nil, ρOw := fun i b hb => (by simp [G] at hb), ahead := fun i ob hi => (by simp [AS.args] at hi), ows := fun b l hb => (by cases hb), fresh := fun b hb => ?_, prot := fun b hb => ⟨hb, rfl, rfl⟩, stab := fun _ _ _ => rfl, mono := fun _ => Nat.le_refl _, size := Nat.le_refl _, os := rfl, tape := rfl, output := rfl, ρ0 := List.prefix_refl _ }
    · simp only [AS.args]
      rcases Nat.lt_or_ge j us.length with hj | hj
      · have := hvr j us[j] (List.getElem?_eq_getElem hj)
        simpa [List.getD, hj] using this
      · have e1 : us.getD j .dead = .dead := by simp [List.getD, hj]
        rw [e1]; rfl
    · have hb : W.heap.size ≤ b := hb
      show Kall W b = 0
      unfold Kall
      rw [Array.getElem?_eq_none hb]
  refine (h C args G rfl rfl hR).mono fun e w' ⟨x, v, st', G', he, hv, hR'⟩ => ?_
  subst hv
  have hx := hR'.slots 0
  have hx' : x = .bool true := (VR_bool hx).1
  refine ⟨by rw [he, hx'], ⟨hR'.os, hR'.tape, hR'.output, hR'.size, fun k hk => (hR'.prot k hk).2.1⟩⟩

end
end Go.AL
