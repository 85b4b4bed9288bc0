import Derived.Test.YtddncbgdoplgiaaGreatSp29
import Derived.Test.YtddncbgdoplgiaaGreatAlOp
import Derived.Test.YtddncbgdoplgiaaGreatRows
import Derived.WalkKit
namespace Go.Proofs.YtddncbgdoplgiaaGreat
open Go Go.AL Go.R Go.Proofs
open Go.ChangeShapes Go.WideShapes Go.ChangeAt Go.RowKit
set_option maxRecDepth 100000

theorem own : ownKnob Tryz.prog.godebug = none := by kernel_rfl
theorem laidOut : laidOutB Tryz.prog = true := by kernel_rfl

theorem ty_report {v : V} {d : Nat} (h : TyV Tryz.prog (d + 2) 62 v) : ∃ r : Rep, v = r.v ∧ r.ok := by
  have hu : Tryz.prog.underlying 62 = some (.struct (Tryz.prog.fieldsOf 62)) := by kernel_rfl
  simp only [TyV, hu] at h
  obtain ⟨us, rfl, hl, hf⟩ := h
  have hsz : (Tryz.prog.fieldsOf 62).size = 5 := by kernel_rfl
  have t0 : ((Tryz.prog.fieldsOf 62)[0]?).map (·.type) = some 3 := by kernel_rfl
  have t1 : ((Tryz.prog.fieldsOf 62)[1]?).map (·.type) = some 3 := by kernel_rfl
  have t2 : ((Tryz.prog.fieldsOf 62)[2]?).map (·.type) = some 3 := by kernel_rfl
  have t3 : ((Tryz.prog.fieldsOf 62)[3]?).map (·.type) = some 60 := by kernel_rfl
  have t4 : ((Tryz.prog.fieldsOf 62)[4]?).map (·.type) = some 60 := by kernel_rfl
  rw [hsz] at hl
  match us, hl with
  | [a, b, c, e, f], _ =>
    have u3 : Tryz.prog.underlying 3 = some (.int .i64) := by kernel_rfl
    have u60 : Tryz.prog.underlying 60 = some (.float .f64) := by kernel_rfl
    simp only [Option.map_eq_some_iff] at t0 t1 t2 t3 t4
    obtain ⟨f0, g0, e0⟩ := t0
    obtain ⟨f1, g1, e1⟩ := t1
    obtain ⟨f2, g2, e2⟩ := t2
    obtain ⟨f3, g3, e3⟩ := t3
    obtain ⟨f4, g4, e4⟩ := t4
    have h0 := hf 0 f0 a g0 rfl
    have h1 := hf 1 f1 b g1 rfl
    have h2 := hf 2 f2 c g2 rfl
    have h3 := hf 3 f3 e g3 rfl
    have h4 := hf 4 f4 f g4 rfl
    rw [e0, u3] at h0
    rw [e1, u3] at h1
    rw [e2, u3] at h2
    rw [e3, u60] at h3
    rw [e4, u60] at h4
    obtain ⟨n0, rfl, _⟩ := h0
    obtain ⟨n1, rfl, _⟩ := h1
    obtain ⟨n2, rfl, _⟩ := h2
    obtain ⟨n3, rfl, w3⟩ := h3
    obtain ⟨n4, rfl, w4⟩ := h4
    exact ⟨⟨n0, n1, n2, n3, n4⟩, rfl, by simpa [Lit.wf] using w3, by simpa [Lit.wf] using w4⟩

theorem ty_reports {v : V} {d : Nat} (h : TyV Tryz.prog (d + 3) 66 v) : ∃ l : List Rep, v = .list (l.map Rep.v) ∧ ∀ r ∈ l, r.ok := by
  have hu : Tryz.prog.underlying 66 = some (.slice 62) := by kernel_rfl
  unfold TyV at h
  rw [hu] at h
  obtain ⟨xs, rfl, hlen, hx⟩ := h
  clear hu hlen
  induction xs with
  | nil => exact ⟨[], rfl, by simp⟩
  | cons x xs ih =>
    obtain ⟨l, hl, hok⟩ := ih fun y hy => hx y (by simp [hy])
    obtain ⟨r, rfl, hr⟩ := ty_report (hx x (by simp))
    injection hl with hl
    exact ⟨r :: l, by simp [hl], by simp only [List.mem_cons, forall_eq_or_imp]; exact ⟨hr, hok⟩⟩

theorem lay60 : layB Tryz.prog 5 60 = true := by kernel_rfl
theorem lay66 : layB Tryz.prog 5 66 = true := by kernel_rfl

theorem lifted (os : Os) (started : os.Started) (H : Type) (enc : TypeId × Value → H) :
    ReturnsInHanded {} Tryz.checked os 6 .any (Rows.spaceTrendsSpec.pre6 enc Tryz.prog Tryz.f6 Rows.spaceTrendsRow.domain false) (Rows.spaceTrendsSpec.post enc Tryz.prog Tryz.f6 false true false false) := by
  refine returnsInHanded_of_change (C := Tryz.checked) own started (by kernel_rfl) Tryz.func6
    (ChangeSpec.witness6 (enc := enc) (C := Tryz.checked) false ⟨#[], #[.float .f64 0, .float .f64 0, .slice none 0 0], []⟩ 8 (by kernel_rfl) (by kernel_rfl) (by kernel_rfl) (by kernel_rfl)) ?_
  intro W base args ds gs before hval0 hW hcnd _
  have hval : ∀ (j : Nat) t v, Tryz.f6.params[j]? = some t → args[j]? = some v → Value.okWide Tryz.prog W .any base t v := hval0
  have hW' := hW
  obtain ⟨p, q, hA0, hV, rfl, hfz, hnd⟩ := hW
  have hA : DataW.TrodAll enc Tryz.prog W 0 (fun _ => true) true Tryz.f6.params.toList args.toList ds p := hA0
  rw [Tryz.params6] at hA hval
  obtain ⟨v0, vs0, d0, ds0, p0, q0, hargs, rfl, rfl, h0, r0⟩ := trodAll_cons hA
  obtain ⟨v1, vs1, d1, ds1, p1, q1, rfl, rfl, rfl, h1, r1⟩ := trodAll_cons r0
  obtain ⟨v2, vs2, d2, ds2, p2, q2, rfl, rfl, rfl, h2, r2⟩ := trodAll_cons r1
  obtain ⟨rfl, rfl, rfl⟩ := trodAll_nil r2
  obtain rfl : args = #[v0, v1, v2] := by cases args; simp_all
  obtain ⟨rfl, rfl⟩ := trodVars_none hV
  have k0 := h0
  have k1 := h1
  have k2 := h2
  have lt0 : ∀ x ∈ p0, x.block < W.heap.size := by obtain ⟨m, hm⟩ := k0; exact DataW.trod_lt m _ _ _ hm
  have lt1 : ∀ x ∈ p1, x.block < W.heap.size := by obtain ⟨m, hm⟩ := k1; exact DataW.trod_lt m _ _ _ hm
  have lt2 : ∀ x ∈ p2, x.block < W.heap.size := by obtain ⟨m, hm⟩ := k2; exact DataW.trod_lt m _ _ _ hm
  have u60 : Tryz.prog.underlying 60 = some (.float .f64) := by kernel_rfl
  have u66 : Tryz.prog.underlying 66 = some (.slice 62) := by kernel_rfl
  obtain ⟨f0, hf0⟩ := h0
  obtain ⟨f1, hf1⟩ := h1
  obtain ⟨f2, hf2⟩ := h2
  obtain ⟨x0, o0⟩ := open_trod 5 60 f0 _ _ lay60 hf0
  obtain ⟨x1, o1⟩ := open_trod 5 60 f1 _ _ lay60 hf1
  obtain ⟨x2, o2⟩ := open_trod 5 66 f2 _ _ lay66 hf2
  have y0 := o0.ty
  have y1 := o1.ty
  unfold TyV at y0 y1
  rw [u60] at y0 y1
  obtain ⟨b0, rfl, w0⟩ := y0
  obtain ⟨b1, rfl, w1⟩ := y1
  obtain ⟨l, rfl, hok⟩ := ty_reports (d := 2) o2.ty
  have ag0 : isAggV v0 = false := by
    have := hval 0 60 v0 rfl rfl
    simp only [Value.okWide, u60, Cell.okWide] at this
    cases v0 <;> simp_all [Cell.ok, isAggV]
  have ag1 : isAggV v1 = false := by
    have := hval 1 60 v1 rfl rfl
    simp only [Value.okWide, u60, Cell.okWide] at this
    cases v1 <;> simp_all [Cell.ok, isAggV]
  have ag2 : isAggV v2 = false := by
    obtain ⟨a, n, c, rfl⟩ := okWide_slice u66 (hval 2 66 v2 rfl rfl); rfl
  have hwalk := calls_of_FnA (P := Tryz.prog) (f := 6) (us := [.flt .f64 b0, .flt .f64 b1, .list (l.map Rep.v)]) (args := #[v0, v1, v2]) (W := W) rfl (fun j u hj => by
    match j, hj with
    | 0, hj => simp at hj; subst hj; exact o0.vr ag0
    | 1, hj => simp at hj; subst hj; exact o1.vr ag1
    | 2, hj => simp at hj; subst hj; exact o2.vr ag2) ((s6 (D := fun _ _ _ => none) (fun _ _ _ _ h => by cases h) [.flt .f64 b0, .flt .f64 b1, .list (l.map Rep.v)] [] (.bool true, []) (show ap3 (r6 fun _ _ _ => none) _ _ = _ from r6_spec hok)).mono fun v st' h => h.1)
  clear hA0 hval0
  refine hwalk.mono fun e W' ⟨he, bel⟩ => ?_
  subst he
  exact ⟨_, rfl, _, _, _, [], _, [], hW', trodAll_mk1 (shut_bool Tryz.underlying4 _), (trodAll_cons_mk (Below.trod laidOut (by kernel_rfl) (of_decide_eq_true (by kernel_rfl)) k0 bel lt0) (trodAll_cons_mk (Below.trod laidOut (by kernel_rfl) (of_decide_eq_true (by kernel_rfl)) k1 bel lt1) (trodAll_cons_mk (Below.trod laidOut (by kernel_rfl) (of_decide_eq_true (by kernel_rfl)) k2 bel lt2) trodAll_mk0))), rfl, bel.frame _, fun h => by cases h⟩


end Go.Proofs.YtddncbgdoplgiaaGreat
