import Derived.Test.YtddncbgdoplgiaaGreatAlV
namespace Go.AL
open Go.RowKit

section
variable {P : Program} {C : Ctx} {S : AS} {a : Act} {w w' : World} {G : Gh} {ρ ρ' : List Nat} {K : Nat → Nat}

theorem frame_put {o : Oper} {d d' : Nat} {v : V} {f g : Option V} {S2 : AS} (hdst : o.dst = some d') (hne : d ≠ d') (hfg : f = g) (h : f.map ((S.put d v).put d') = some S2) :
    ∃ S1, g.map (S.put d') = some S1 ∧ S2 = S1.put d v ∧ Same o S S1 := by
  subst hfg
  simp only [Option.map_eq_some_iff] at h ⊢
  obtain ⟨u, hu, rfl⟩ := h
  exact ⟨_, ⟨u, hu, rfl⟩, put_comm v u hne, Same.put hdst u⟩

theorem frame_new {o : Oper} {d d' : Nat} {v : V} (hdst : o.dst = some d') (hne : d ≠ d') (st : List Ob) (u : V) :
    AS.put { S.put d v with st := st } d' u = (AS.put { S with st := st } d' u).put d v ∧ Same o S (AS.put { S with st := st } d' u) := by
  refine ⟨?_, rfl, fun j _ hj => ?_⟩
  · simp only [AS.put]; rw [upd_comm _ _ _ hne]
  · have : j ≠ d' := fun e => hj (e ▸ hdst)
    simp [AS.put, upd, this]

theorem evOp_frame {b : Nat → Bool} {o : Oper} {d : Nat} {v : V} {S2 : AS} (hr : ∀ x ∈ o.op.operands, x ≠ .tmp d) (hd : o.dst ≠ some d) (h : evOp P b (S.put d v) o = some S2) :
    ∃ S1, evOp P b S o = some S1 ∧ S2 = S1.put d v ∧ Same o S S1 := by
  unfold evOp at h ⊢
  split at h
  · rename_i x ho
    simp only [ho, Op.operands] at hr
    have hx := hr x (by simp)
    refine frame_withD hd h fun d' hdst hne h => ?_
    split at h
    · rename_i hb; simp only [hb, if_true]; exact frame_give (.inr ho) hdst hne hx h
    · rename_i hb; simp only [hb, if_false]
      unfold evMove at h ⊢
      rw [ev_put hx] at h
      injection h with h; subst h
      exact ⟨_, rfl, put_comm v _ hne, Same.put hdst _⟩
  · rename_i x ho
    simp only [ho, Op.operands] at hr
    exact frame_withD hd h fun d' hdst hne h => frame_give (.inl ho) hdst hne (hr x (by simp)) h
  · rename_i c x y ho
    simp only [ho, Op.operands] at hr
    exact frame_putD hd (evPick_put (hr c (by simp)) (hr x (by simp)) (hr y (by simp))) h
  · rename_i e ho
    refine frame_withD hd h fun d' hdst hne h => ?_
    unfold evAlloc at h ⊢
    simp only [Option.map_eq_some_iff] at h ⊢
    obtain ⟨u, hu, rfl⟩ := h
    obtain ⟨h1, h2⟩ := frame_new (S := S) (v := v) hdst hne (S.st ++ [.box u]) (.ptr S.st.length 0 [])
    exact ⟨_, ⟨u, hu, rfl⟩, h1, h2⟩
  · rename_i e x ho
    simp only [ho, Op.operands] at hr
    have hx := hr x (by simp)
    refine frame_withD hd h fun d' hdst hne h => ?_
    unfold evBox at h ⊢
    rw [ev_put hx] at h
    split at h
    · rename_i hc
      injection h with h; subst h
      obtain ⟨h1, h2⟩ := frame_new (S := S) (v := v) hdst hne (S.st ++ [.box (S.ev x).view]) (.ptr S.st.length 0 [])
      exact ⟨_, by rw [if_pos (show (S.ev x).isVal = true ∧ V.ahead S.st.length (S.ev x) = true from hc)], h1, h2⟩
    · cases h
  · rename_i t ps ho
    simp only [ho, Op.operands] at hr
    exact frame_putD hd (evBuild_congr fun p hp => ev_put (hr p.2 (by simp only [List.mem_toArray, List.mem_map]; exact ⟨p, by simpa using hp, rfl⟩))) h
  · rename_i t len ps ho
    simp only [ho, Op.operands] at hr
    have hp : ∀ p ∈ ps.toList, (S.put d v).ev p.2 = S.ev p.2 := fun p hp => ev_put (hr p.2 (by simp only [List.mem_toArray, List.mem_map]; exact ⟨p, hp, rfl⟩))
    refine frame_withD hd h fun d' hdst hne h => ?_
    unfold evBuildSlice at h ⊢
    simp only [Option.bind_eq_some_iff] at h ⊢
    obtain ⟨e, he, q, hq, h⟩ := h
    have e1 : (ps.toList.all fun p => ((S.put d v).ev p.2).isVal && decide (((S.put d v).ev p.2).size = q.1)) = ps.toList.all fun p => (S.ev p.2).isVal && decide ((S.ev p.2).size = q.1) := by
      have : ∀ (l : List (Nat × Operand)), (∀ p ∈ l, (S.put d v).ev p.2 = S.ev p.2) → (l.all fun p => ((S.put d v).ev p.2).isVal && decide (((S.put d v).ev p.2).size = q.1)) = l.all fun p => (S.ev p.2).isVal && decide ((S.ev p.2).size = q.1) := by
        intro l hl
        induction l with
        | nil => rfl
        | cons x xs ih => simp only [List.all_cons]; rw [hl x (by simp), ih fun y hy => hl y (by simp [hy])]
      exact this _ hp
    have e2 : (ps.toList.map fun p => ((S.put d v).ev p.2).view) = ps.toList.map fun p => (S.ev p.2).view := List.map_congr_left fun p h => by rw [hp p h]
    rw [e1, e2] at h
    split at h
    · rename_i hc
      injection h with h; subst h
      exact ⟨_, ⟨e, he, q, hq, by rw [if_pos hc]⟩, put_comm v _ hne, Same.put hdst _⟩
    · cases h
  · rename_i t x ho
    simp only [ho, Op.operands] at hr
    have hx := hr x (by simp)
    split at h
    · rename_i hb
      rw [if_pos hb]
      refine frame_withD hd h fun d' hdst hne h2 => ?_
      unfold evTake at h2 ⊢
      rw [ev_put hx] at h2
      split at h2
      · rename_i oo off q _
        have hst : (S.put d v).st = S.st := rfl
        rw [hst] at h2
        split at h2
        · rename_i v0 hv0
          simp only [Option.bind_eq_some_iff] at h2 ⊢
          obtain ⟨r, hr', h2⟩ := h2
          split at h2
          · rename_i hc
            injection h2 with h2; subst h2
            refine ⟨{ S with s := upd S.s d' r.2, st := S.st.set oo (.box (v0.set q r.2.view)) }, ⟨r, hr', by rw [if_pos hc]⟩, ?_, rfl, fun j _ hj => ?_⟩
            · simp only [AS.put]; rw [upd_comm _ _ _ hne]
            · have : j ≠ d' := fun e => hj (e ▸ hdst)
              simp [upd, this]
          · cases h2
        · cases h2
      · cases h2
    · rename_i hb
      rw [if_neg hb]
      exact frame_putD hd (by rw [ev_put hx]; exact evLoad_put) h
  · rename_i t p x ho
    simp only [ho, Op.operands] at hr
    have hp := hr p (by simp)
    have hx := hr x (by simp)
    split at h
    · rename_i hdn
      simp only [hdn, if_true]
      unfold evStore at h ⊢
      rw [ev_put hp, ev_put hx] at h
      split at h
      · rename_i oo off q hpe
        have hst : (S.put d v).st = S.st := rfl
        rw [hst] at h
        split at h
        · rename_i v0 hst0
          simp only [Option.bind_eq_some_iff] at h ⊢
          obtain ⟨r, hr', h⟩ := h
          split at h
          · rename_i hc
            split at h
            · rename_i hown
              cases x with
              | tmp t0 =>
                simp only at h
                injection h with h; subst h
                have ht : t0 ≠ d := fun e => hx (e ▸ rfl)
                refine ⟨{ S with s := upd S.s t0 (S.s t0).view, st := S.st.set oo (.box (v0.set q (S.ev (.tmp t0)))) }, ⟨r, hr', by rw [if_pos hc, if_pos hown]⟩, ?_, rfl, fun j hj hj' => ?_⟩
                · simp only [AS.put]
                  have : upd S.s d v t0 = S.s t0 := by simp [upd, ht]
                  rw [this, upd_comm _ _ _ (Ne.symm ht)]
                · have h2 : j ≠ t0 := fun e => hj (by simp [gives, ho, e])
                  simp [upd, h2]
              | const c => simp only at h; injection h with h; subst h; exact ⟨{ S with st := S.st.set oo (.box (v0.set q (S.ev (.const c)))) }, ⟨r, hr', by rw [if_pos hc, if_pos hown]⟩, rfl, rfl, fun j _ _ => rfl⟩
              | global c => simp only at h; injection h with h; subst h; exact ⟨{ S with st := S.st.set oo (.box (v0.set q (S.ev (.global c)))) }, ⟨r, hr', by rw [if_pos hc, if_pos hown]⟩, rfl, rfl, fun j _ _ => rfl⟩
              | func c => simp only at h; injection h with h; subst h; exact ⟨{ S with st := S.st.set oo (.box (v0.set q (S.ev (.func c)))) }, ⟨r, hr', by rw [if_pos hc, if_pos hown]⟩, rfl, rfl, fun j _ _ => rfl⟩
            · rename_i hown
              injection h with h; subst h
              exact ⟨{ S with st := S.st.set oo (.box (v0.set q (S.ev x))) }, ⟨r, hr', by rw [if_pos hc, if_neg hown]⟩, rfl, rfl, fun j _ _ => rfl⟩
          · cases h
        · cases h
      · cases h
    · cases h
  · rename_i x ho
    simp only [ho, Op.operands] at hr
    exact frame_putD hd (by rw [ev_put (hr x (by simp))]) h
  · rename_i op t x y yt ho
    simp only [ho, Op.operands] at hr
    exact frame_putD hd (by rw [ev_put (hr x (by simp)), ev_put (hr y (by simp))]) h
  · rename_i op t x ho
    simp only [ho, Op.operands] at hr
    exact frame_putD hd (by rw [ev_put (hr x (by simp))]) h
  · rename_i s t x ho
    simp only [ho, Op.operands] at hr
    exact frame_putD hd (by rw [ev_put (hr x (by simp))]; exact evConvS_put) h
  · rename_i f first caps ho
    simp only [ho, Op.operands] at hr
    split at h
    · rename_i hf
      simp only [hf, if_true]
      exact frame_putD hd (evMakeFunc_congr fun x hx => ev_put (hr x (by simp; exact .inr (by simpa using hx)))) h
    · cases h
  · rename_i t l c ho
    simp only [ho, Op.operands] at hr
    refine frame_withD hd h fun d' hdst hne h => ?_
    unfold evMakeSlice at h ⊢
    rw [ev_put (hr l (by simp)), ev_put (hr c (by simp))] at h
    simp only [Option.bind_eq_some_iff] at h ⊢
    obtain ⟨e, he, q, hq, z, hz, h⟩ := h
    split at h
    · split at h
      · rename_i hc
        injection h with h; subst h
        exact ⟨_, ⟨e, he, q, hq, z, hz, by rw [if_pos hc]⟩, put_comm v _ hne, Same.put hdst _⟩
      · cases h
    · cases h
  · rename_i t x lo hi ho
    simp only [ho, Op.operands] at hr
    refine frame_putD hd ?_ h
    rw [ev_put (hr x (by simp))]
    have h1 : lo.map (S.put d v).ev = lo.map S.ev := by cases lo with
      | none => rfl
      | some y => simp only [Option.map_some]; rw [ev_put (hr y (by simp))]
    have h2 : hi.map (S.put d v).ev = hi.map S.ev := by cases hi with
      | none => rfl
      | some y => simp only [Option.map_some]; rw [ev_put (hr y (by simp))]
    rw [h1, h2]
  · rename_i t x f ho
    simp only [ho, Op.operands] at hr
    exact frame_putD hd (by rw [ev_put (hr x (by simp))]) h
  · rename_i t x f ho
    simp only [ho, Op.operands] at hr
    exact frame_putD hd (by rw [ev_put (hr x (by simp))]) h
  · rename_i t x y ho
    simp only [ho, Op.operands] at hr
    exact frame_putD hd (by rw [ev_put (hr x (by simp)), ev_put (hr y (by simp))]) h
  · rename_i t x y ho
    simp only [ho, Op.operands] at hr
    exact frame_putD hd (by rw [ev_put (hr x (by simp)), ev_put (hr y (by simp))]) h
  · rename_i x i ho
    simp only [ho, Op.operands] at hr
    have hx := hr x (by simp)
    refine frame_withD hd h fun d' hdst hne h => ?_
    unfold evExtract at h ⊢
    rw [ev_put hx] at h
    split at h
    · rename_i vs hvs
      simp only [Option.bind_eq_some_iff] at h ⊢
      obtain ⟨u, hu, h⟩ := h
      split at h
      · rename_i hown
        cases x with
        | tmp t0 =>
          simp only at h
          injection h with h; subst h
          have ht : t0 ≠ d := fun e => hx (e ▸ rfl)
          refine ⟨{ S with s := upd (upd S.s t0 (.tup (vs.set i u.view))) d' u }, ⟨u, hu, by rw [if_pos hown]⟩, ?_, rfl, fun j hj hj' => ?_⟩
          · simp only [AS.put]
            rw [upd_comm _ _ _ (Ne.symm ht), upd_comm _ _ _ hne]
          · have h1 : j ≠ d' := fun e => hj' (e ▸ hdst)
            have h2 : j ≠ t0 := fun e => hj (by simp [gives, ho, e])
            simp [upd, h1, h2]
        | const c => simp only at h; cases h
        | global c => simp only at h; cases h
        | func c => simp only at h; cases h
      · rename_i hown
        injection h with h; subst h
        exact ⟨_, ⟨u, hu, by rw [if_neg hown]⟩, put_comm v _ hne, Same.put hdst _⟩
    · cases h
  · rename_i t ho
    refine frame_withD hd h fun d' hdst hne h2 => ?_
    injection h2 with h2; subst h2
    obtain ⟨h1, h3⟩ := frame_new (S := S) (v := v) hdst hne (S.st ++ [.map []]) (.mp S.st.length)
    exact ⟨_, rfl, h1, h3⟩
  · rename_i t x k ok ho
    simp only [ho, Op.operands] at hr
    exact frame_putD hd (by rw [ev_put (hr x (by simp)), ev_put (hr k (by simp))]; rfl) h
  · rename_i t m k x ho
    simp only [ho, Op.operands] at hr
    split at h
    · rename_i hdn
      simp only [hdn, if_true]
      rw [ev_put (hr m (by simp)), ev_put (hr k (by simp)), ev_put (hr x (by simp))] at h
      unfold evMapUpdate at h ⊢
      split at h
      · rename_i oo kk nn _ _
        simp only [Option.bind_eq_some_iff] at h ⊢
        obtain ⟨q, hq, h⟩ := h
        split at h
        · rename_i hc
          have hst : (S.put d v).st = S.st := rfl
          rw [hst] at h
          split at h
          · rename_i es hes
            simp only [Option.map_eq_some_iff] at h
            obtain ⟨r, hr', rfl⟩ := h
            exact ⟨{ S with st := S.st.set oo (.map (mapPut es (.int kk nn) (S.ev x).view r)) }, ⟨q, hq, by rw [if_pos hc]; simp only [hr', Option.map_some]⟩, rfl, rfl, fun j _ _ => rfl⟩
          · cases h
        · cases h
      · cases h
    · cases h
  · rename_i c ho
    simp only [ho, Op.operands] at hr
    split at h
    · rename_i bb hc
      have hop : ∀ x ∈ c.args.toList, x ≠ .tmp d := fun x hx => hr x (by simp only [Call.operands, Array.mem_append]; exact .inr (by simpa using hx))
      refine frame_withD hd h fun d' hdst hne h2 => ?_
      clear h
      unfold evBuiltin at h2 ⊢
      split at h2
      · rename_i t u s x ht hx
        exact frame_append ho hc hx hdst hne (hop s (by rw [hx]; simp)) (hop x (by rw [hx]; simp)) h2
      · rename_i t x ht hx
        exact frame_put hdst hne (by rw [ev_put (hop x (by rw [hx]; simp))]; exact evLen_put) h2
      · rename_i x y hx
        exact frame_put hdst hne (by rw [ev_put (hop x (by rw [hx]; simp)), ev_put (hop y (by rw [hx]; simp))]) h2
      · rename_i x y hx
        exact frame_put hdst hne (by rw [ev_put (hop x (by rw [hx]; simp)), ev_put (hop y (by rw [hx]; simp))]) h2
      · cases h2
    · cases h
  · cases h

/-! ### what an operation does to the objects -/
/-- an operation, not of a call of a function, that leaves all objects alone -/
def keepsSt (b : Nat → Bool) (o : Oper) : Bool :=
  match o.op with
  | .move _ | .assign _ | .pick .. | .build .. | .buildSlice .. | .nilCheck _ | .binOp .. | .unOp .. | .convert .. | .makeFunc .. | .makeSlice .. | .slice .. | .fieldAddr .. | .field .. | .indexAddr .. | .index .. | .extract .. | .lookup .. => true
  | .load _ _ => !isBase b o.dst
  | .call c => match c.callee with | .builtin _ => true | _ => false
  | _ => false

/-- the slot that holds the address that it writes at -/
def addrOf (o : Oper) : Option Nat := match o.op with | .store _ (.tmp t) _ => some t | _ => none

theorem putD_st {dst : Option Nat} {v : Option V} {S1 : AS} (h : putD S dst v = some S1) : S1.st = S.st := by
  obtain ⟨d, u, _, _, _, rfl⟩ := putD_some h; rfl

theorem evGive_st {d : Nat} {x : Operand} {S1 : AS} (h : evGive S d x = some S1) : S1.st = S.st := by
  unfold evGive at h
  split at h
  · split at h <;> (injection h with h; subst h; rfl)
  · injection h with h; subst h; rfl

theorem evExtract_st {d i : Nat} {x : Operand} {S1 : AS} (h : evExtract S d x i = some S1) : S1.st = S.st := by
  unfold evExtract at h
  split at h
  · simp only [Option.bind_eq_some_iff] at h
    obtain ⟨v, _, h⟩ := h
    split at h
    · split at h
      · injection h with h; subst h; rfl
      · cases h
    · injection h with h; subst h; rfl
  · cases h

theorem evBuildSlice_st {t len d : Nat} {ps : List (Nat × Operand)} {S1 : AS} (h : evBuildSlice P t len S d ps = some S1) : S1.st = S.st := by
  unfold evBuildSlice at h
  simp only [Option.bind_eq_some_iff] at h
  obtain ⟨e, _, q, _, h⟩ := h
  split at h
  · injection h with h; subst h; rfl
  · cases h

theorem evMakeSlice_st {t d : Nat} {l c : Operand} {S1 : AS} (h : evMakeSlice P t S d l c = some S1) : S1.st = S.st := by
  unfold evMakeSlice at h
  simp only [Option.bind_eq_some_iff] at h
  obtain ⟨e, _, q, _, z, _, h⟩ := h
  split at h
  · split at h
    · injection h with h; subst h; rfl
    · cases h
  · cases h

theorem evBuiltin_st {d : Nat} {b : Builtin} {ts : List Nat} {xs : List Operand} {S1 : AS} (h : evBuiltin P S d b ts xs = some S1) : S1.st = S.st := by
  unfold evBuiltin at h
  split at h
  · unfold evAppend at h
    split at h
    · simp only [Option.bind_eq_some_iff] at h
      obtain ⟨e, _, q, _, h⟩ := h
      split at h
      · split at h
        · split at h
          · injection h with h; subst h; rfl
          · cases h
        · injection h with h; subst h; rfl
      · cases h
    · cases h
  · simp only [Option.map_eq_some_iff] at h; obtain ⟨v, _, rfl⟩ := h; rfl
  · simp only [Option.map_eq_some_iff] at h; obtain ⟨v, _, rfl⟩ := h; rfl
  · simp only [Option.map_eq_some_iff] at h; obtain ⟨v, _, rfl⟩ := h; rfl
  · cases h

theorem evOp_keeps {b : Nat → Bool} {o : Oper} {S1 : AS} (hk : keepsSt b o = true) (h : evOp P b S o = some S1) : S1.st = S.st := by
  unfold evOp at h
  unfold keepsSt at hk
  split at h
  · obtain ⟨d, _, _, h⟩ := withD_some h
    split at h
    · exact evGive_st h
    · unfold evMove at h; injection h with h; subst h; rfl
  · obtain ⟨d, _, _, h⟩ := withD_some h
    exact evGive_st h
  · exact putD_st h
  · rename_i ho; simp [ho] at hk
  · rename_i ho; simp [ho] at hk
  · exact putD_st h
  · obtain ⟨d, _, _, h⟩ := withD_some h
    exact evBuildSlice_st h
  · rename_i ho
    simp only [ho, Bool.not_eq_true'] at hk
    rw [if_neg (by simp [hk])] at h
    exact putD_st h
  · rename_i ho; simp [ho] at hk
  · exact putD_st h
  · exact putD_st h
  · exact putD_st h
  · exact putD_st h
  · split at h
    · exact putD_st h
    · cases h
  · obtain ⟨d, _, _, h⟩ := withD_some h
    exact evMakeSlice_st h
  · exact putD_st h
  · exact putD_st h
  · exact putD_st h
  · exact putD_st h
  · exact putD_st h
  · obtain ⟨d, _, _, h⟩ := withD_some h
    exact evExtract_st h
  · rename_i ho; simp [ho] at hk
  · exact putD_st h
  · rename_i ho; simp [ho] at hk
  · split at h
    · obtain ⟨d, _, _, h⟩ := withD_some h
      exact evBuiltin_st h
    · cases h
  · cases h

theorem evOp_addr {b : Nat → Bool} {o : Oper} {S1 : AS} {t o' off : Nat} {p : List Nat} (ha : addrOf o = some t) (ht : S.s t = .ptr o' off p) (h : evOp P b S o = some S1) : ∀ n, n ≠ o' → S1.st[n]? = S.st[n]? := by
  intro n hn
  unfold addrOf at ha
  split at ha
  · rename_i ty t' x ho
    injection ha with ha; subst ha
    simp only [evOp, ho] at h
    split at h
    · unfold evStore at h
      have : S.ev (.tmp t') = .ptr o' off p := ht
      rw [this] at h
      simp only at h
      split at h
      · simp only [Option.bind_eq_some_iff] at h
        obtain ⟨r, _, h⟩ := h
        split at h
        · split at h
          · split at h <;> (injection h with h; subst h; simp [List.getElem?_set, Ne.symm hn])
          · injection h with h; subst h; simp [List.getElem?_set, Ne.symm hn]
        · cases h
      · cases h
    · cases h
  · cases ha

/-- an operation that makes one object more -/
def growsSt (o : Oper) : Bool := match o.op with | .alloc _ | .box .. | .makeMap _ none => true | _ => false

theorem evOp_grows {b : Nat → Bool} {o : Oper} {S1 : AS} (hg : growsSt o = true) (h : evOp P b S o = some S1) : ∃ x, S1.st = S.st ++ [x] := by
  unfold growsSt at hg
  split at hg
  · rename_i e ho
    simp only [evOp, ho] at h
    obtain ⟨d, _, _, h⟩ := withD_some h
    simp only [evAlloc, Option.map_eq_some_iff] at h
    obtain ⟨v, _, rfl⟩ := h
    exact ⟨_, rfl⟩
  · rename_i e x ho
    simp only [evOp, ho] at h
    obtain ⟨d, _, _, h⟩ := withD_some h
    unfold evBox at h
    split at h
    · injection h with h; subst h; exact ⟨_, rfl⟩
    · cases h
  · rename_i t ho
    simp only [evOp, ho] at h
    obtain ⟨d, _, _, h⟩ := withD_some h
    injection h with h; subst h; exact ⟨_, rfl⟩
  · cases hg

theorem evOp_addr_len {b : Nat → Bool} {o : Oper} {S1 : AS} {t : Nat} (ha : addrOf o = some t) (h : evOp P b S o = some S1) : S1.st.length = S.st.length := by
  unfold addrOf at ha
  split at ha
  · rename_i ty t' x ho
    simp only [evOp, ho] at h
    split at h
    · unfold evStore at h
      split at h
      · split at h
        · simp only [Option.bind_eq_some_iff] at h
          obtain ⟨r, _, h⟩ := h
          split at h
          · split at h
            · split at h <;> (injection h with h; subst h; simp)
            · injection h with h; subst h; simp
          · cases h
        · cases h
      · cases h
    · cases h
  · cases ha

end
end Go.AL
