import Derived.Test.YtddncbgdoplgiaaGreatAlRb
import Derived.Test.YtddncbgdoplgiaaGreatAw29
import Derived.Test.YtddncbgdoplgiaaGreatProg
namespace Go.R
open Go Go.AL Go.Proofs
set_option maxRecDepth 10000

/-- dormouselaw29.awake, by the kernel -/
def r42 (_ : FEv) (st : List Ob) : Option (V × List Ob) := some (.bool true, st)
theorem s42 {D : FEv} (_ : SoundF Tryz.prog D) : SoundG Tryz.prog 42 (ap0 (r42 D)) := fun args st r h => by
  unfold ap0 at h
  split at h
  · simp only [r42, Option.some.injEq] at h
    subst h
    have h1 := evalFn_sound 400 40 42 [] [] _ awake29
    exact h1.iso (Q := fun v => v = .bool true) rfl st
  · cases h

/-- dormouse/gauge.Smooth -/
noncomputable def r47 (D : FEv) (x0 x1 x2 : V) (st : List Ob) : Option (V × List Ob) :=
  (evBn Tryz.prog .neq 60 x0.view x0.view).bind fun v0 =>
  condK v0
  (finK st.length x1.view st)
  ((
      (evBn Tryz.prog .neq 60 x1.view x1.view).bind fun v1 =>
      condK v1.view
      (some (Ex.nor, ([(V.bool true), x0, x1, x2], st)))
      ((evBn Tryz.prog .neq 60 x2.view x2.view).bind fun v2 =>
      some (Ex.nor, ([v2.view, x0, x1, x2], st)))).bind fun j3 =>
    if j3.1 = Ex.nor then
      condK (j3.2.1.getD 0 .dead)
      (finK st.length (j3.2.1.getD 1 .dead).view j3.2.2)
      ((evMm true (j3.2.1.getD 3 .dead).view (V.flt .f64 0)).bind fun v4 =>
  (evMm false v4 (V.flt .f64 4607182418800017408)).bind fun v5 =>
  (evBn Tryz.prog .sub 60 (j3.2.1.getD 2 .dead).view (j3.2.1.getD 1 .dead).view).bind fun v6 =>
  (evBn Tryz.prog .mul 60 v6 v5.view).bind fun v7 =>
  (evBn Tryz.prog .add 60 (j3.2.1.getD 1 .dead).view v7).bind fun v8 =>
  finK st.length v8 j3.2.2)
    else none)

theorem s47 {D : FEv} (hD : SoundF Tryz.prog D) : SoundG Tryz.prog 47 (ap3 (r47 D)) :=
  G3 (F := lookT [] D) (D := D)
    (.seq (.reg [] [] []) (.seq (.blk (.seq (.reg [] [] []) (.cond (.seq (.reg [] [] []) (.leaf)) (.join [13, 0, 1, 2] [] (.reg [] [] []) (.cond (.seq (.reg [] [] []) (.leaf)) (.leaf)))))) (.seq (.reg [] [] []) (.seq (.reg [] [] []) (.leaf)))))
    Tryz.func47 (c := codeOf Tryz.f47) (by kernel_rfl) Tryz.ntmps47 Tryz.results47 (by decide) (lookT_nil hD) hD (by kernel_rfl)

/-- dormouse/dormouseref04.minus -/
noncomputable def r180 (D : FEv) (x0 : V) (st : List Ob) : Option (V × List Ob) :=
  (natV Tryz.prog 179 [x0.view.view]).bind fun v0 =>
  (evBn Tryz.prog .geq 50 v0 (V.int .u64 9223372036854775808)).bind fun v1 =>
  finK st.length v1 st

theorem s180 {D : FEv} (hD : SoundF Tryz.prog D) : SoundG Tryz.prog 180 (ap1 (r180 D)) :=
  G1 (F := lookT [] D) (D := D)
    (.seq (.reg [] [] []) (.seq (.reg [] [] []) (.leaf)))
    Tryz.func180 (c := codeOf Tryz.f180) (by kernel_rfl) Tryz.ntmps180 Tryz.results180 (by decide) (lookT_nil hD) hD (by kernel_rfl)

/-- dormouse/dormouseref04.Less -/
noncomputable def r48 (D : FEv) (x0 x1 : V) (st : List Ob) : Option (V × List Ob) :=
  (natV Tryz.prog 179 [x0.view.view]).bind fun v0 =>
  (natV Tryz.prog 179 [x1.view.view]).bind fun v1 =>
  (r180 D x0.view.view st).bind fun c2 =>
  let st3 := c2.2
  (r180 D x1.view.view st3).bind fun c4 =>
  let st5 := c4.2
  (evBn Tryz.prog .neq 4 c2.1 c4.1).bind fun v6 =>
  condK v6
  ((r180 D x0.view.view st5).bind fun c7 =>
    let st8 := c7.2
    finK st.length c7.1 st8)
  ((r180 D x0.view.view st5).bind fun c9 =>
  let st10 := c9.2
  condK c9.1
  ((evBn Tryz.prog .gtr 50 v0.view v1.view).bind fun v11 =>
    finK st.length v11 st10)
  ((evBn Tryz.prog .lss 50 v0.view v1.view).bind fun v12 =>
  finK st.length v12 st10))

theorem s48 {D : FEv} (hD : SoundF Tryz.prog D) : SoundG Tryz.prog 48 (ap2 (r48 D)) :=
  G2 (F := lookT [(180, ap1 (r180 D))] D) (D := D)
    (.seq (.reg [] [] []) (.seq (.reg [] [] []) (.seq (.reg [] [] []) (.seq (.seq (.reg [] [] []) (.cond (.seq (.reg [] [] []) (.leaf)) (.leaf))) (.seq (.seq (.reg [] [] []) (.cond (.seq (.reg [] [] []) (.leaf)) (.leaf))) (.seq (.reg [] [] []) (.leaf)))))))
    Tryz.func48 (c := codeOf Tryz.f48) (by kernel_rfl) Tryz.ntmps48 Tryz.results48 (by decide) (lookT_cons (s180 hD) (lookT_nil hD)) hD (by kernel_rfl)

/-- dormouse/gauge.Bits -/
noncomputable def r295 (D : FEv) (x0 : V) (st : List Ob) : Option (V × List Ob) :=
  (natV Tryz.prog 179 [x0.view.view]).bind fun v0 =>
  finK st.length v0 st

theorem s295 {D : FEv} (hD : SoundF Tryz.prog D) : SoundG Tryz.prog 295 (ap1 (r295 D)) :=
  G1 (F := lookT [] D) (D := D)
    (.seq (.reg [] [] []) (.seq (.reg [] [] []) (.leaf)))
    Tryz.func295 (c := codeOf Tryz.f295) (by kernel_rfl) Tryz.ntmps295 Tryz.results295 (by decide) (lookT_nil hD) hD (by kernel_rfl)

/-- dormouse/gauge.Key -/
noncomputable def r294 (D : FEv) (x0 : V) (st : List Ob) : Option (V × List Ob) :=
  (r295 D x0.view.view st).bind fun c0 =>
  let st1 := c0.2
  (evBn Tryz.prog .and 50 c0.1.view (V.int .u64 9223372036854775808)).bind fun v2 =>
  (evBn Tryz.prog .neq 50 v2 (V.int .u64 0)).bind fun v3 =>
  condK v3
  ((evUn .xor c0.1.view).bind fun v4 =>
    finK st.length v4 st1)
  ((evBn Tryz.prog .or 50 c0.1.view (V.int .u64 9223372036854775808)).bind fun v5 =>
  finK st.length v5 st1)

theorem s294 {D : FEv} (hD : SoundF Tryz.prog D) : SoundG Tryz.prog 294 (ap1 (r294 D)) :=
  G1 (F := lookT [(295, ap1 (r295 D))] D) (D := D)
    (.seq (.reg [] [] []) (.seq (.reg [] [] []) (.seq (.seq (.reg [] [] []) (.cond (.seq (.reg [] [] []) (.leaf)) (.leaf))) (.seq (.reg [] [] []) (.leaf)))))
    Tryz.func294 (c := codeOf Tryz.f294) (by kernel_rfl) Tryz.ntmps294 Tryz.results294 (by decide) (lookT_cons (s295 hD) (lookT_nil hD)) hD (by kernel_rfl)

/-- dormouse/gauge.Less -/
noncomputable def r181 (D : FEv) (x0 x1 : V) (st : List Ob) : Option (V × List Ob) :=
  (r294 D x0.view.view st).bind fun c0 =>
  let st1 := c0.2
  (r294 D x1.view.view st1).bind fun c2 =>
  let st3 := c2.2
  (evBn Tryz.prog .lss 50 c0.1 c2.1).bind fun v4 =>
  finK st.length v4 st3

theorem s181 {D : FEv} (hD : SoundF Tryz.prog D) : SoundG Tryz.prog 181 (ap2 (r181 D)) :=
  G2 (F := lookT [(294, ap1 (r294 D))] D) (D := D)
    (.seq (.reg [] [] []) (.seq (.reg [] [] []) (.leaf)))
    Tryz.func181 (c := codeOf Tryz.f181) (by kernel_rfl) Tryz.ntmps181 Tryz.results181 (by decide) (lookT_cons (s294 hD) (lookT_nil hD)) hD (by kernel_rfl)

/-- slots [9, 4, 0, 7, 8] -/
noncomputable def r49_l0 (D : FEv) (q : Sn) : Option (Ex × Sn) :=
  (evBn Tryz.prog .lss 3 (q.1.getD 0 .dead) (q.1.getD 4 .dead)).bind fun v1 =>
  condK v1
  ((
    (evIndexAddr Tryz.prog 66 (q.1.getD 3 .dead) (q.1.getD 0 .dead)).bind fun v2 =>
    (loadV Tryz.prog 62 q.2 v2).bind fun v3 =>
    (zeroOf Tryz.prog 62).bind fun z4 =>
    let st5 := q.2 ++ [Ob.box z4]
    (storeV Tryz.prog 62 st5 (V.ptr q.2.length 0 []) v3).bind fun st6 =>
    (evIndexAddr Tryz.prog 66 (q.1.getD 2 .dead).view (q.1.getD 1 .dead).view).bind fun v7 =>
    (evFieldAddr Tryz.prog 62 v7 3).bind fun v8 =>
    (loadE Tryz.prog 60 v8).bind fun v9 =>
    (evFieldAddr Tryz.prog 62 (V.ptr q.2.length 0 []) 3).bind fun v10 =>
    (loadV Tryz.prog 60 st6 v10).bind fun v11 =>
    if V.aheads 0 [v9.view, v11.view] = true then
    (r181 D v9.view v11.view []).bind fun c12 =>
    if c12.2.isEmpty then
    condK c12.1
    (some (Ex.nor, ([(q.1.getD 0 .dead).view.view, (q.1.getD 2 .dead), (q.1.getD 3 .dead), (q.1.getD 4 .dead), (q.1.getD 0 .dead)], st6)))
    (some (Ex.nor, ([(q.1.getD 1 .dead), (q.1.getD 2 .dead), (q.1.getD 3 .dead), (q.1.getD 4 .dead), (q.1.getD 0 .dead)], st6)))
    else none
    else none).bind fun j13 =>
  if j13.1 = Ex.nor then
    (evBn Tryz.prog .add 3 (j13.2.1.getD 4 .dead) (V.int .i64 1)).bind fun v14 =>
    truncK q.2.length Ex.nor [v14.view, (j13.2.1.getD 0 .dead), (j13.2.1.getD 1 .dead), (j13.2.1.getD 2 .dead), (j13.2.1.getD 3 .dead)] j13.2.2
  else none)
  (truncK q.2.length (Ex.ex 0) [(q.1.getD 0 .dead), (q.1.getD 1 .dead), (q.1.getD 2 .dead), (q.1.getD 3 .dead), (q.1.getD 4 .dead)] q.2)

/-- dormouse/space.Fullest -/
noncomputable def r49 (D : FEv) (x0 : V) (st : List Ob) : Option (V × List Ob) :=
  (lenV Tryz.prog 66 st x0.view).bind fun v0 =>
  (loopF (r49_l0 D) ([(V.int .i64 0), (V.int .i64 0), x0, x0.view, v0], st)).bind fun j15 =>
  if j15.1 = (Ex.ex 0) then
  (lenV Tryz.prog 66 j15.2.2 (j15.2.1.getD 2 .dead).view).bind fun v16 =>
  (evBn Tryz.prog .gtr 3 v16 (V.int .i64 0)).bind fun v17 =>
  (tupK [(j15.2.1.getD 1 .dead).view, v17]).bind fun v18 =>
  finK st.length v18 j15.2.2
  else none

theorem s49 {D : FEv} (hD : SoundF Tryz.prog D) : SoundG Tryz.prog 49 (ap1 (r49 D)) :=
  G1 (F := lookT [(181, ap2 (r181 D))] D) (D := D)
    (.seq (.reg [] [] []) (.seq (.reg [] [] []) (.seq (.seq (.reg [] [] []) (.blk (.loop [9, 4, 0, 7, 8] [(.ex 0)] true (.seq (.reg [] [] []) (.seq (.cond (.leaf) (.leaf)) (.join [4, 0, 7, 8, 9] [] (.blk (.seq (.reg [] [] []) (.seq (.reg [6] [] [(0, none), (1, none), (2, none), (3, none), (4, none), (5, none), (6, none), (7, none)]) (.cond (.reg [] [] []) (.leaf))))) (.reg [] [] []))))))) (.seq (.reg [] [] []) (.leaf)))))
    Tryz.func49 (c := codeOf Tryz.f49) (by kernel_rfl) Tryz.ntmps49 Tryz.results49 (by decide) (lookT_cons (s181 hD) (lookT_nil hD)) hD (by kernel_rfl)

/-- dormouse/gauge.Same -/
noncomputable def r182 (D : FEv) (x0 x1 : V) (st : List Ob) : Option (V × List Ob) :=
  (r295 D x0.view.view st).bind fun c0 =>
  let st1 := c0.2
  (r295 D x1.view.view st1).bind fun c2 =>
  let st3 := c2.2
  (evBn Tryz.prog .eql 50 c0.1 c2.1).bind fun v4 =>
  finK st.length v4 st3

theorem s182 {D : FEv} (hD : SoundF Tryz.prog D) : SoundG Tryz.prog 182 (ap2 (r182 D)) :=
  G2 (F := lookT [(295, ap1 (r295 D))] D) (D := D)
    (.seq (.reg [] [] []) (.seq (.reg [] [] []) (.leaf)))
    Tryz.func182 (c := codeOf Tryz.f182) (by kernel_rfl) Tryz.ntmps182 Tryz.results182 (by decide) (lookT_cons (s295 hD) (lookT_nil hD)) hD (by kernel_rfl)

/-- dormouse/space.Same -/
noncomputable def r50 (D : FEv) (x0 x1 : V) (st : List Ob) : Option (V × List Ob) :=
  if (x0).isVal ∧ (x0).ahead st.length then
  let st0 := st ++ [Ob.box x0.view]
  if (x1).isVal ∧ (x1).ahead st0.length then
  let st1 := st0 ++ [Ob.box x1.view]
  (
    (evFieldAddr Tryz.prog 62 (V.ptr st.length 0 []) 0).bind fun v2 =>
    (loadV Tryz.prog 3 st1 v2).bind fun v3 =>
    (evFieldAddr Tryz.prog 62 (V.ptr st0.length 0 []) 0).bind fun v4 =>
    (loadV Tryz.prog 3 st1 v4).bind fun v5 =>
    (evBn Tryz.prog .eql 3 v3 v5).bind fun v6 =>
    condK v6.view
    ((evFieldAddr Tryz.prog 62 (V.ptr st.length 0 []) 1).bind fun v7 =>
    (loadV Tryz.prog 3 st1 v7).bind fun v8 =>
    (evFieldAddr Tryz.prog 62 (V.ptr st0.length 0 []) 1).bind fun v9 =>
    (loadV Tryz.prog 3 st1 v9).bind fun v10 =>
    (evBn Tryz.prog .eql 3 v8 v10).bind fun v11 =>
    condK v11.view.view
    ((evFieldAddr Tryz.prog 62 (V.ptr st.length 0 []) 2).bind fun v12 =>
    (loadV Tryz.prog 3 st1 v12).bind fun v13 =>
    (evFieldAddr Tryz.prog 62 (V.ptr st0.length 0 []) 2).bind fun v14 =>
    (loadV Tryz.prog 3 st1 v14).bind fun v15 =>
    (evBn Tryz.prog .eql 3 v13 v15).bind fun v16 =>
    condK v16.view.view
    ((evFieldAddr Tryz.prog 62 (V.ptr st.length 0 []) 3).bind fun v17 =>
    (loadV Tryz.prog 60 st1 v17).bind fun v18 =>
    (evFieldAddr Tryz.prog 62 (V.ptr st0.length 0 []) 3).bind fun v19 =>
    (loadV Tryz.prog 60 st1 v19).bind fun v20 =>
    (r182 D v18.view v20.view st1).bind fun c21 =>
    let st22 := c21.2
    condK c21.1.view.view
    ((evFieldAddr Tryz.prog 62 (V.ptr st.length 0 []) 4).bind fun v23 =>
    (loadV Tryz.prog 60 st22 v23).bind fun v24 =>
    (evFieldAddr Tryz.prog 62 (V.ptr st0.length 0 []) 4).bind fun v25 =>
    (loadV Tryz.prog 60 st22 v25).bind fun v26 =>
    (r182 D v24.view v26.view st22).bind fun c27 =>
    let st28 := c27.2
    some (Ex.nor, ([c27.1.view], st28)))
    (some (Ex.nor, ([(V.bool false)], st22))))
    (some (Ex.nor, ([(V.bool false)], st1))))
    (some (Ex.nor, ([(V.bool false)], st1))))
    (some (Ex.nor, ([(V.bool false)], st1)))).bind fun j29 =>
  if j29.1 = Ex.nor then
    finK st.length (j29.2.1.getD 0 .dead) j29.2.2
  else none
  else none
  else none

theorem s50 {D : FEv} (hD : SoundF Tryz.prog D) : SoundG Tryz.prog 50 (ap2 (r50 D)) :=
  G2 (F := lookT [(182, ap2 (r182 D))] D) (D := D)
    (.seq (.reg [] [] []) (.join [4] [] (.reg [] [] []) (.leaf)))
    Tryz.func50 (c := codeOf Tryz.f50) (by kernel_rfl) Tryz.ntmps50 Tryz.results50 (by decide) (lookT_cons (s182 hD) (lookT_nil hD)) hD (by kernel_rfl)

/-- dormouse/dormouseref04.Same -/
noncomputable def r51 (D : FEv) (x0 x1 : V) (st : List Ob) : Option (V × List Ob) :=
  (natV Tryz.prog 179 [x0.view.view]).bind fun v0 =>
  (natV Tryz.prog 179 [x1.view.view]).bind fun v1 =>
  (evBn Tryz.prog .eql 50 v0 v1).bind fun v2 =>
  finK st.length v2 st

theorem s51 {D : FEv} (hD : SoundF Tryz.prog D) : SoundG Tryz.prog 51 (ap2 (r51 D)) :=
  G2 (F := lookT [] D) (D := D)
    (.seq (.reg [] [] []) (.seq (.reg [] [] []) (.leaf)))
    Tryz.func51 (c := codeOf Tryz.f51) (by kernel_rfl) Tryz.ntmps51 Tryz.results51 (by decide) (lookT_nil hD) hD (by kernel_rfl)

/-- dormouse/dormouseref04.Alike -/
noncomputable def r52 (D : FEv) (x0 x1 : V) (st : List Ob) : Option (V × List Ob) :=
  (
    (evBn Tryz.prog .eql 60 x0.view x1.view).bind fun v0 =>
    condK v0.view
    (some (Ex.nor, ([(V.bool true)], st)))
    ((evBn Tryz.prog .neq 60 x0.view x0.view).bind fun v1 =>
    condK v1.view
    ((evBn Tryz.prog .neq 60 x1.view x1.view).bind fun v2 =>
    some (Ex.nor, ([v2.view.view], st)))
    (some (Ex.nor, ([(V.bool false)], st))))).bind fun j3 =>
  if j3.1 = Ex.nor then
    finK st.length (j3.2.1.getD 0 .dead) j3.2.2
  else none

theorem s52 {D : FEv} (hD : SoundF Tryz.prog D) : SoundG Tryz.prog 52 (ap2 (r52 D)) :=
  G2 (F := lookT [] D) (D := D)
    (.seq (.reg [] [] []) (.join [4] [] (.reg [] [] []) (.leaf)))
    Tryz.func52 (c := codeOf Tryz.f52) (by kernel_rfl) Tryz.ntmps52 Tryz.results52 (by decide) (lookT_nil hD) hD (by kernel_rfl)

/-- slots [11, 1, 0, 9, 10] -/
noncomputable def r53_l0 (D : FEv) (q : Sn) : Option (Ex × Sn) :=
  (evBn Tryz.prog .lss 3 (q.1.getD 0 .dead) (q.1.getD 4 .dead)).bind fun v1 =>
  condK v1
  ((evIndexAddr Tryz.prog 66 (q.1.getD 3 .dead) (q.1.getD 0 .dead)).bind fun v2 =>
  (loadV Tryz.prog 62 q.2 v2).bind fun v3 =>
  (zeroOf Tryz.prog 62).bind fun z4 =>
  let st5 := q.2 ++ [Ob.box z4]
  (storeV Tryz.prog 62 st5 (V.ptr q.2.length 0 []) v3).bind fun st6 =>
  (evFieldAddr Tryz.prog 62 (V.ptr q.2.length 0 []) 3).bind fun v7 =>
  (loadV Tryz.prog 60 st6 v7).bind fun v8 =>
  (r47 D (q.1.getD 2 .dead).view.view v8.view (q.1.getD 1 .dead).view.view st6).bind fun c9 =>
  let st10 := c9.2
  (evBn Tryz.prog .add 3 (q.1.getD 0 .dead) (V.int .i64 1)).bind fun v11 =>
  truncK q.2.length Ex.nor [v11.view, (q.1.getD 1 .dead), c9.1, (q.1.getD 3 .dead), (q.1.getD 4 .dead)] st10)
  (truncK q.2.length (Ex.ex 0) [(q.1.getD 0 .dead), (q.1.getD 1 .dead), (q.1.getD 2 .dead), (q.1.getD 3 .dead), (q.1.getD 4 .dead)] q.2)

/-- dormouse/space.Trend -/
noncomputable def r53 (D : FEv) (x0 x1 x2 : V) (st : List Ob) : Option (V × List Ob) :=
  (lenV Tryz.prog 66 st x2.view).bind fun v0 =>
  (loopF (r53_l0 D) ([(V.int .i64 0), x1, x0, x2.view, v0], st)).bind fun j12 =>
  if j12.1 = (Ex.ex 0) then
  finK st.length (j12.2.1.getD 2 .dead).view j12.2.2
  else none

theorem s53 {D : FEv} (hD : SoundF Tryz.prog D) : SoundG Tryz.prog 53 (ap3 (r53 D)) :=
  G3 (F := lookT [(47, ap3 (r47 D))] D) (D := D)
    (.seq (.reg [] [] []) (.seq (.seq (.reg [] [] []) (.blk (.loop [11, 1, 0, 9, 10] [(.ex 0)] true (.seq (.reg [] [] []) (.seq (.cond (.leaf) (.leaf)) (.seq (.blk (.seq (.reg [] [] []) (.reg [] [] []))) (.reg [] [] []))))))) (.seq (.reg [] [] []) (.leaf))))
    Tryz.func53 (c := codeOf Tryz.f53) (by kernel_rfl) Tryz.ntmps53 Tryz.results53 (by decide) (lookT_cons (s47 hD) (lookT_nil hD)) hD (by kernel_rfl)

/-- slots [9, 2, 8, 1, 7, 0] -/
noncomputable def r6_l0 (D : FEv) (q : Sn) : Option (Ex × Sn) :=
  (lenV Tryz.prog 66 q.2 (q.1.getD 1 .dead).view).bind fun v4 =>
  (evBn Tryz.prog .lss 3 (q.1.getD 0 .dead).view v4).bind fun v5 =>
  condK v5
  ((
    (evIndexAddr Tryz.prog 66 (q.1.getD 1 .dead).view (q.1.getD 0 .dead).view).bind fun v6 =>
    (evFieldAddr Tryz.prog 62 v6 3).bind fun v7 =>
    (loadV Tryz.prog 60 q.2 v7).bind fun v8 =>
    (r47 D (q.1.getD 4 .dead).view.view v8.view (q.1.getD 3 .dead).view.view q.2).bind fun c9 =>
    let st10 := c9.2
    (evIndexAddr Tryz.prog 66 (q.1.getD 1 .dead).view (q.1.getD 2 .dead).view).bind fun v11 =>
    (evFieldAddr Tryz.prog 62 v11 3).bind fun v12 =>
    (loadE Tryz.prog 60 v12).bind fun v13 =>
    (evIndexAddr Tryz.prog 66 (q.1.getD 1 .dead).view (q.1.getD 0 .dead).view).bind fun v14 =>
    (evFieldAddr Tryz.prog 62 v14 3).bind fun v15 =>
    (loadE Tryz.prog 60 v15).bind fun v16 =>
    if V.aheads 0 [v13.view, v16.view] = true then
    (r48 D v13.view v16.view []).bind fun c17 =>
    if c17.2.isEmpty then
    condK c17.1
    (some (Ex.nor, ([(q.1.getD 1 .dead), (q.1.getD 0 .dead).view, (q.1.getD 3 .dead), c9.1, (q.1.getD 5 .dead), (q.1.getD 0 .dead)], st10)))
    (some (Ex.nor, ([(q.1.getD 1 .dead), (q.1.getD 2 .dead), (q.1.getD 3 .dead), c9.1, (q.1.getD 5 .dead), (q.1.getD 0 .dead)], st10)))
    else none
    else none).bind fun j18 =>
  if j18.1 = Ex.nor then
    (evBn Tryz.prog .add 3 (j18.2.1.getD 5 .dead).view (V.int .i64 1)).bind fun v19 =>
    some (Ex.nor, ([v19, (j18.2.1.getD 0 .dead), (j18.2.1.getD 1 .dead), (j18.2.1.getD 2 .dead), (j18.2.1.getD 3 .dead), (j18.2.1.getD 4 .dead)], j18.2.2))
  else none)
  (some ((Ex.ex 0), ([(q.1.getD 0 .dead), (q.1.getD 1 .dead), (q.1.getD 2 .dead), (q.1.getD 3 .dead), (q.1.getD 4 .dead), (q.1.getD 5 .dead)], q.2)))

/-- dormouse/dormouselaw29.SpaceTrends -/
noncomputable def r6 (D : FEv) (x0 x1 x2 : V) (st : List Ob) : Option (V × List Ob) :=
  (
    (lenV Tryz.prog 66 st x2.view).bind fun v0 =>
    (evBn Tryz.prog .gtr 3 v0 (V.int .i64 40)).bind fun v1 =>
    condK v1
    ((evSlice Tryz.prog 66 x2.view none (some (V.int .i64 40))).bind fun v2 =>
      some (Ex.nor, ([v2, x1, x0], st)))
    (some (Ex.nor, ([x2, x1, x0], st)))).bind fun j3 =>
  if j3.1 = Ex.nor then
    (loopF (r6_l0 D) ([(V.int .i64 0), (j3.2.1.getD 0 .dead), (V.int .i64 0), (j3.2.1.getD 1 .dead), (j3.2.1.getD 2 .dead).view, (j3.2.1.getD 2 .dead)], j3.2.2)).bind fun j20 =>
    if j20.1 = (Ex.ex 0) then
    (r49 D (j20.2.1.getD 1 .dead).view.view j20.2.2).bind fun c21 =>
    let st22 := c21.2
    (extractV c21.1.view 0).bind fun v23 =>
    (extractV (extractRest c21.1.view 0) 1).bind fun v24 =>
    (
      (lenE Tryz.prog 66 (j20.2.1.getD 1 .dead).view).bind fun v25 =>
      (evBn Tryz.prog .lss 3 v25 (V.int .i64 2)).bind fun v26 =>
      condK v26.view
      (some (Ex.nor, ([(V.bool true), (j20.2.1.getD 1 .dead), v24, (j20.2.1.getD 2 .dead), v23, (j20.2.1.getD 4 .dead), (j20.2.1.getD 3 .dead), (j20.2.1.getD 5 .dead)], st22)))
      ((evIndexAddr Tryz.prog 66 (j20.2.1.getD 1 .dead).view (V.int .i64 0)).bind fun v27 =>
      (loadE Tryz.prog 62 v27).bind fun v28 =>
      (evIndexAddr Tryz.prog 66 (j20.2.1.getD 1 .dead).view (V.int .i64 1)).bind fun v29 =>
      (loadE Tryz.prog 62 v29).bind fun v30 =>
      if V.aheads 0 [v28.view, v30.view] = true then
      (r50 D v28.view v30.view []).bind fun c31 =>
      if c31.2.isEmpty then
      (evIndexAddr Tryz.prog 66 (j20.2.1.getD 1 .dead).view (V.int .i64 0)).bind fun v32 =>
      (evFieldAddr Tryz.prog 62 v32 0).bind fun v33 =>
      (loadE Tryz.prog 3 v33).bind fun v34 =>
      (evIndexAddr Tryz.prog 66 (j20.2.1.getD 1 .dead).view (V.int .i64 1)).bind fun v35 =>
      (evFieldAddr Tryz.prog 62 v35 0).bind fun v36 =>
      (loadE Tryz.prog 3 v36).bind fun v37 =>
      (evBn Tryz.prog .eql 3 v34 v37).bind fun v38 =>
      condK v38.view
      ((evIndexAddr Tryz.prog 66 (j20.2.1.getD 1 .dead).view (V.int .i64 0)).bind fun v39 =>
      (evFieldAddr Tryz.prog 62 v39 1).bind fun v40 =>
      (loadE Tryz.prog 3 v40).bind fun v41 =>
      (evIndexAddr Tryz.prog 66 (j20.2.1.getD 1 .dead).view (V.int .i64 1)).bind fun v42 =>
      (evFieldAddr Tryz.prog 62 v42 1).bind fun v43 =>
      (loadE Tryz.prog 3 v43).bind fun v44 =>
      (evBn Tryz.prog .eql 3 v41 v44).bind fun v45 =>
      condK v45.view.view
      ((evIndexAddr Tryz.prog 66 (j20.2.1.getD 1 .dead).view (V.int .i64 0)).bind fun v46 =>
      (evFieldAddr Tryz.prog 62 v46 2).bind fun v47 =>
      (loadE Tryz.prog 3 v47).bind fun v48 =>
      (evIndexAddr Tryz.prog 66 (j20.2.1.getD 1 .dead).view (V.int .i64 1)).bind fun v49 =>
      (evFieldAddr Tryz.prog 62 v49 2).bind fun v50 =>
      (loadE Tryz.prog 3 v50).bind fun v51 =>
      (evBn Tryz.prog .eql 3 v48 v51).bind fun v52 =>
      condK v52.view.view
      ((evIndexAddr Tryz.prog 66 (j20.2.1.getD 1 .dead).view (V.int .i64 0)).bind fun v53 =>
      (evFieldAddr Tryz.prog 62 v53 3).bind fun v54 =>
      (loadE Tryz.prog 60 v54).bind fun v55 =>
      (evIndexAddr Tryz.prog 66 (j20.2.1.getD 1 .dead).view (V.int .i64 1)).bind fun v56 =>
      (evFieldAddr Tryz.prog 62 v56 3).bind fun v57 =>
      (loadE Tryz.prog 60 v57).bind fun v58 =>
      if V.aheads 0 [v55.view, v58.view] = true then
      (r51 D v55.view v58.view []).bind fun c59 =>
      if c59.2.isEmpty then
      condK c59.1.view.view
      ((evIndexAddr Tryz.prog 66 (j20.2.1.getD 1 .dead).view (V.int .i64 0)).bind fun v60 =>
      (evFieldAddr Tryz.prog 62 v60 4).bind fun v61 =>
      (loadE Tryz.prog 60 v61).bind fun v62 =>
      (evIndexAddr Tryz.prog 66 (j20.2.1.getD 1 .dead).view (V.int .i64 1)).bind fun v63 =>
      (evFieldAddr Tryz.prog 62 v63 4).bind fun v64 =>
      (loadE Tryz.prog 60 v64).bind fun v65 =>
      if V.aheads 0 [v62.view, v65.view] = true then
      (r51 D v62.view v65.view []).bind fun c66 =>
      if c66.2.isEmpty then
      (evBn Tryz.prog .eql 4 c31.1 c66.1.view).bind fun v67 =>
      some (Ex.nor, ([v67.view, (j20.2.1.getD 1 .dead), v24, (j20.2.1.getD 2 .dead), v23, (j20.2.1.getD 4 .dead), (j20.2.1.getD 3 .dead), (j20.2.1.getD 5 .dead)], st22))
      else none
      else none)
      ((evBn Tryz.prog .eql 4 c31.1 (V.bool false)).bind fun v68 =>
      some (Ex.nor, ([v68.view, (j20.2.1.getD 1 .dead), v24, (j20.2.1.getD 2 .dead), v23, (j20.2.1.getD 4 .dead), (j20.2.1.getD 3 .dead), (j20.2.1.getD 5 .dead)], st22)))
      else none
      else none)
      ((evBn Tryz.prog .eql 4 c31.1 (V.bool false)).bind fun v69 =>
      some (Ex.nor, ([v69.view, (j20.2.1.getD 1 .dead), v24, (j20.2.1.getD 2 .dead), v23, (j20.2.1.getD 4 .dead), (j20.2.1.getD 3 .dead), (j20.2.1.getD 5 .dead)], st22))))
      ((evBn Tryz.prog .eql 4 c31.1 (V.bool false)).bind fun v70 =>
      some (Ex.nor, ([v70.view, (j20.2.1.getD 1 .dead), v24, (j20.2.1.getD 2 .dead), v23, (j20.2.1.getD 4 .dead), (j20.2.1.getD 3 .dead), (j20.2.1.getD 5 .dead)], st22))))
      ((evBn Tryz.prog .eql 4 c31.1 (V.bool false)).bind fun v71 =>
      some (Ex.nor, ([v71.view, (j20.2.1.getD 1 .dead), v24, (j20.2.1.getD 2 .dead), v23, (j20.2.1.getD 4 .dead), (j20.2.1.getD 3 .dead), (j20.2.1.getD 5 .dead)], st22)))
      else none
      else none)).bind fun j72 =>
    if j72.1 = Ex.nor then
      (
        (r42 D  j72.2.2).bind fun c73 =>
        let st74 := c73.2
        condK c73.1.view
        ((r53 D (j72.2.1.getD 7 .dead).view.view (j72.2.1.getD 6 .dead).view.view (j72.2.1.getD 1 .dead).view.view st74).bind fun c75 =>
        let st76 := c75.2
        (r52 D c75.1.view (j72.2.1.getD 5 .dead).view.view st76).bind fun c77 =>
        let st78 := c77.2
        condK c77.1.view.view
        ((evBn Tryz.prog .eql 3 (j72.2.1.getD 4 .dead).view (j72.2.1.getD 3 .dead).view).bind fun v79 =>
        condK v79.view.view
        ((lenV Tryz.prog 66 st78 (j72.2.1.getD 1 .dead).view).bind fun v80 =>
        (evBn Tryz.prog .gtr 3 v80 (V.int .i64 0)).bind fun v81 =>
        (evBn Tryz.prog .eql 4 (j72.2.1.getD 2 .dead).view v81).bind fun v82 =>
        condK v82.view.view
        (some (Ex.nor, ([(j72.2.1.getD 0 .dead).view.view], st78)))
        (some (Ex.nor, ([(V.bool false)], st78))))
        (some (Ex.nor, ([(V.bool false)], st78))))
        (some (Ex.nor, ([(V.bool false)], st78))))
        (some (Ex.nor, ([(V.bool false)], st74)))).bind fun j83 =>
      if j83.1 = Ex.nor then
        finK st.length (j83.2.1.getD 0 .dead) j83.2.2
      else none
    else none
    else none
  else none

theorem s6 {D : FEv} (hD : SoundF Tryz.prog D) : SoundG Tryz.prog 6 (ap3 (r6 D)) :=
  G3 (F := lookT [(47, ap3 (r47 D)), (48, ap2 (r48 D)), (49, ap1 (r49 D)), (50, ap2 (r50 D)), (51, ap2 (r51 D)), (42, ap0 (r42 D)), (53, ap3 (r53 D)), (52, ap2 (r52 D))] D) (D := D)
    (.seq (.reg [] [] []) (.join [2, 1, 0] [] (.seq (.reg [] [] []) (.cond (.reg [] [] []) (.leaf))) (.seq (.reg [] [] []) (.seq (.reg [] [] []) (.seq (.seq (.reg [] [] []) (.blk (.loop [9, 2, 8, 1, 7, 0] [(.ex 0)] false (.seq (.seq (.reg [] [] []) (.cond (.leaf) (.leaf))) (.join [2, 8, 1, 7, 0, 9] [] (.blk (.seq (.reg [] [] []) (.seq (.reg [] [] [(0, none), (1, none), (2, none), (3, none), (4, none), (5, none), (6, none), (7, none), (8, none), (9, none), (10, none)]) (.cond (.reg [] [] []) (.leaf))))) (.reg [] [] [])))))) (.seq (.reg [] [] []) (.join [12, 2, 11, 8, 10, 7, 1, 0] [] (.reg [] [66] [(0, none), (1, none), (2, none), (3, none), (4, none), (5, none), (6, none), (7, none), (8, none), (9, none), (10, none), (11, none), (12, none), (13, none), (14, none), (15, none), (16, none), (17, none), (18, none), (19, none), (20, none), (21, none), (22, none), (23, none), (24, none), (25, none), (26, none), (27, none), (28, none), (29, none), (30, none), (31, none), (32, none), (33, none), (34, none), (35, none), (36, none), (37, none), (38, none), (39, none), (40, none), (41, none), (42, none), (43, none), (44, none), (45, none), (46, none), (47, none), (48, none), (49, none), (50, none), (51, none), (52, none), (53, none), (54, none), (55, none), (56, none), (57, none), (58, none), (59, none), (60, none), (61, none), (62, none), (63, none), (64, none), (65, none), (66, none)]) (.join [6] [] (.reg [] [] []) (.leaf)))))))))
    Tryz.func6 (c := codeOf Tryz.f6) (by kernel_rfl) Tryz.ntmps6 Tryz.results6 (by decide) (lookT_cons (s47 hD) (lookT_cons (s48 hD) (lookT_cons (s49 hD) (lookT_cons (s50 hD) (lookT_cons (s51 hD) (lookT_cons (s42 hD) (lookT_cons (s53 hD) (lookT_cons (s52 hD) (lookT_nil hD))))))))) hD (by kernel_rfl)

end Go.R
