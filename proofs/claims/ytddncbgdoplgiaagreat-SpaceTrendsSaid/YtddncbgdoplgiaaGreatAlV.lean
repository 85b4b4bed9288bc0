import Derived.Test.YtddncbgdoplgiaaGreatAlU
namespace Go.AL
open Go.RowKit

section
variable {P : Program} {C : Ctx} {S : AS} {a : Act} {w w' : World} {G : Gh} {ρ ρ' : List Nat} {K : Nat → Nat}

/-! ### operations that do not look at a slot -/
theorem upd_comm (s : Nat → V) {i j : Nat} (u v : V) (h : i ≠ j) : upd (upd s i u) j v = upd (upd s j v) i u := by
  funext k
  simp only [upd]
  by_cases h1 : k = j
  · have : k ≠ i := fun e => h (e ▸ h1); simp [h1, Ne.symm h]
  · simp [h1]

theorem ev_put {d : Nat} {v : V} {x : Operand} (h : x ≠ .tmp d) : (S.put d v).ev x = S.ev x := by
  cases x with
  | tmp t =>
    have : t ≠ d := fun e => h (e ▸ rfl)
    simp [AS.ev, AS.put, upd, this]
  | _ => rfl

theorem evPick_put {d : Nat} {v : V} {c x y : Operand} (hc : c ≠ .tmp d) (hx : x ≠ .tmp d) (hy : y ≠ .tmp d) : evPick (S.put d v) c x y = evPick S c x y := by
  unfold evPick; rw [ev_put hc, ev_put hx, ev_put hy]

theorem evMakeFunc_congr {S' : AS} {f : Nat} {caps : List Operand} (h : ∀ x ∈ caps, S'.ev x = S.ev x) : evMakeFunc S' f caps = evMakeFunc S f caps := by
  unfold evMakeFunc
  have h1 : (caps.all fun x => (S'.ev x).isCell) = caps.all fun x => (S.ev x).isCell := by
    induction caps with
    | nil => rfl
    | cons x xs ih => simp only [List.all_cons]; rw [h x (by simp), ih fun y hy => h y (by simp [hy])]
  have h2 : (caps.map fun x => (S'.ev x).view) = caps.map fun x => (S.ev x).view := List.map_congr_left fun x hx => by rw [h x hx]
  rw [h1, h2]

theorem evBuild_congr {t : Nat} {f g : Operand → V} {ps : List (Nat × Operand)} (h : ∀ p ∈ ps, f p.2 = g p.2) : evBuild P t f ps = evBuild P t g ps := by
  unfold evBuild
  have : (ps.map fun q => (q.1, f q.2)) = ps.map fun q => (q.1, g q.2) := List.map_congr_left fun p hp => by rw [h p hp]
  rw [this]

theorem evLen_put {t d : Nat} {v u : V} : evLen P t (S.put d v) u = evLen P t S u := rfl
theorem evConvS_put {s t d : Nat} {v u : V} : evConvS P (S.put d v) s t u = evConvS P S s t u := rfl
theorem evLoad_put {t d : Nat} {v u : V} : evLoad P t (S.put d v) u = evLoad P t S u := rfl

theorem lightB_congr {S' : AS} {b : Builtin} {ts : List Nat} {xs : List Operand} (h : ∀ x ∈ xs, S'.ev x = S.ev x) : lightB P S' b ts xs = lightB P S b ts xs := by
  unfold lightB
  split
  · rw [h _ (by simp)]; rfl
  · rw [h _ (by simp), h _ (by simp)]
  · rw [h _ (by simp), h _ (by simp)]
  · rfl

theorem evBuildSliceV_congr {S' : AS} {t len : Nat} {ps : List (Nat × Operand)} (hp : ∀ p ∈ ps, S'.ev p.2 = S.ev p.2) : evBuildSliceV P t len S' ps = evBuildSliceV P t len S ps := by
  have e1 : ∀ q : Nat, (ps.all fun p => (S'.ev p.2).isVal && decide ((S'.ev p.2).size = q)) = ps.all fun p => (S.ev p.2).isVal && decide ((S.ev p.2).size = q) := by
    intro q
    induction ps with
    | nil => rfl
    | cons x xs ih => simp only [List.all_cons]; rw [hp x (by simp), ih fun y hy => hp y (by simp [hy])]
  have e2 : (ps.map fun p => (S'.ev p.2).view) = ps.map fun p => (S.ev p.2).view := List.map_congr_left fun p h => by rw [hp p h]
  unfold evBuildSliceV
  simp only [e1, e2]

theorem lightV_congr {S' : AS} {o : Oper} (h : ∀ x ∈ o.op.operands, S'.ev x = S.ev x) : lightV P S' o = lightV P S o := by
  unfold lightV
  obtain ⟨dst, op, ty, pos, af, g⟩ := o
  cases op <;> simp only [Op.operands] at h <;> simp only []
  case move x => rw [h x (by simp)]
  case assign x => rw [h x (by simp)]
  case pick c x y => unfold evPick; rw [h c (by simp), h x (by simp), h y (by simp)]
  case build t ps => exact evBuild_congr fun p hp => h p.2 (by simp only [List.mem_toArray, List.mem_map]; exact ⟨p, hp, rfl⟩)
  case buildSlice t len ps => exact evBuildSliceV_congr fun p hp => h p.2 (by simp only [List.mem_toArray, List.mem_map]; exact ⟨p, hp, rfl⟩)
  case load t x => rw [h x (by simp)]
  case nilCheck x => rw [h x (by simp)]
  case binOp op t x y t' => rw [h x (by simp), h y (by simp)]
  case unOp op t x => rw [h x (by simp)]
  case convert s t x => rw [h x (by simp)]
  case makeFunc fn first caps =>
    cases fn <;> simp only []
    rename_i f
    split
    · exact evMakeFunc_congr fun x hx => h x (by simp; exact .inr (by simpa using hx))
    · rfl
  case slice t x lo hi mx =>
    cases mx <;> simp only []
    rw [h x (by simp)]
    have h1 : lo.map S'.ev = lo.map S.ev := by cases lo with
      | none => rfl
      | some y => simp only [Option.map_some]; rw [h y (by simp)]
    have h2 : hi.map S'.ev = hi.map S.ev := by cases hi with
      | none => rfl
      | some y => simp only [Option.map_some]; rw [h y (by simp)]
    rw [h1, h2]
  case fieldAddr t x f => rw [h x (by simp)]
  case field t x f => rw [h x (by simp)]
  case indexAddr t x y => rw [h x (by simp), h y (by simp)]
  case index t x y => rw [h x (by simp), h y (by simp)]
  case extract x i => rw [h x (by simp)]
  case call c =>
    split
    · exact lightB_congr fun x hx => h x (by simp only [Call.operands, Array.mem_append]; exact .inr (by simpa using hx))
    · rfl

/-- what an operation may take the ownership from -/
def gives (o : Oper) : List Nat :=
  match o.op with
  | .assign (.tmp t) => [t]
  | .move (.tmp t) => [t]
  | .store _ _ (.tmp t) => [t]
  | .extract (.tmp t) _ => [t]
  | .call c => match c.callee, c.args.toList with
    | .builtin .append, .tmp t :: _ => [t]
    | _, _ => []
  | _ => []

/-- what a step leaves alone -/
def Same (o : Oper) (S S1 : AS) : Prop := S1.n = S.n ∧ ∀ j, j ∉ gives o → o.dst ≠ some j → S1.s j = S.s j

theorem Same.put {o : Oper} {d : Nat} (hd : o.dst = some d) (u : V) : Same o S (S.put d u) :=
  ⟨rfl, fun j _ hj => by have : j ≠ d := fun e => hj (e ▸ hd); simp [AS.put, upd, this]⟩

theorem put_comm {i j : Nat} (u v : V) (h : i ≠ j) : (S.put i u).put j v = (S.put j v).put i u := by
  simp only [AS.put]; rw [upd_comm _ _ _ h]

theorem frame_putD {o : Oper} {d : Nat} {v : V} {f g : Option V} {S2 : AS} (hd : o.dst ≠ some d) (hfg : f = g) (h : putD (S.put d v) o.dst f = some S2) :
    ∃ S1, putD S o.dst g = some S1 ∧ S2 = S1.put d v ∧ Same o S S1 := by
  obtain ⟨d', u, hdst, hn, hu, rfl⟩ := putD_some h
  have hne : d ≠ d' := fun e => hd (e ▸ hdst)
  refine ⟨S.put d' u, ?_, put_comm v u hne, Same.put hdst u⟩
  have hn' : d' < S.n := hn
  simp [putD, hdst, hn', ← hfg, hu]

theorem frame_withD {o : Oper} {d : Nat} {v : V} {f g : Nat → Option AS} {S2 : AS} (hd : o.dst ≠ some d) (h : withD (S.put d v) o.dst f = some S2)
    (hfg : ∀ d', o.dst = some d' → d ≠ d' → f d' = some S2 → ∃ S1, g d' = some S1 ∧ S2 = S1.put d v ∧ Same o S S1) :
    ∃ S1, withD S o.dst g = some S1 ∧ S2 = S1.put d v ∧ Same o S S1 := by
  obtain ⟨d', hdst, hn, hu⟩ := withD_some h
  have hne : d ≠ d' := fun e => hd (e ▸ hdst)
  obtain ⟨S1, h1, h2, h3⟩ := hfg d' hdst hne hu
  have hn' : d' < S.n := hn
  exact ⟨S1, by simp [withD, hdst, hn', h1], h2, h3⟩

theorem frame_give {o : Oper} {d d' : Nat} {v : V} {x : Operand} {S2 : AS} (ho : o.op = .assign x ∨ o.op = .move x) (hdst : o.dst = some d') (hne : d ≠ d') (hx : x ≠ .tmp d) (h : evGive (S.put d v) d' x = some S2) :
    ∃ S1, evGive S d' x = some S1 ∧ S2 = S1.put d v ∧ Same o S S1 := by
  unfold evGive at h ⊢
  rw [ev_put hx] at h
  split at h
  · rename_i hown
    simp only [hown, if_true]
    cases x with
    | tmp t =>
      simp only at h ⊢
      injection h with h; subst h
      have ht : t ≠ d := fun e => hx (e ▸ rfl)
      refine ⟨_, rfl, ?_, rfl, fun j hj hj' => ?_⟩
      · simp only [AS.put]
        have : upd S.s d v t = S.s t := by simp [upd, ht]
        rw [this, upd_comm _ _ _ (Ne.symm ht), upd_comm _ _ _ hne]
      · have h1 : j ≠ d' := fun e => hj' (e ▸ hdst)
        have h2 : j ≠ t := fun e => hj (by rcases ho with ho | ho <;> simp [gives, ho, e])
        simp [upd, h1, h2]
    | const c => simp only at h ⊢; injection h with h; subst h; exact ⟨_, rfl, put_comm v _ hne, Same.put hdst _⟩
    | global c => simp only at h ⊢; injection h with h; subst h; exact ⟨_, rfl, put_comm v _ hne, Same.put hdst _⟩
    | func c => simp only at h ⊢; injection h with h; subst h; exact ⟨_, rfl, put_comm v _ hne, Same.put hdst _⟩
  · rename_i hown
    injection h with h; subst h
    exact ⟨_, by simp [hown], put_comm v _ hne, Same.put hdst _⟩

theorem src_put {d : Nat} {v u : V} : (S.put d v).src u = S.src u := by
  cases u <;> rfl

theorem frame_append {o : Oper} {c : Call} {d d' : Nat} {v : V} {t u : Nat} {s x : Operand} {S2 : AS} (ho : o.op = .call c) (hc : c.callee = .builtin .append) (hargs : c.args.toList = [s, x]) (hdst : o.dst = some d') (hne : d ≠ d') (hs : s ≠ .tmp d) (hx : x ≠ .tmp d)
    (h : evAppend P t u (S.put d v) d' s x = some S2) : ∃ S1, evAppend P t u S d' s x = some S1 ∧ S2 = S1.put d v ∧ Same o S S1 := by
  unfold evAppend at h ⊢
  rw [ev_put hs, ev_put hx, src_put] at h
  split at h
  · rename_i e k xs ys h1 h2
    simp only [Option.bind_eq_some_iff] at h ⊢
    obtain ⟨e', he', q, hq, h⟩ := h
    split at h
    · rename_i hcond
      have fin : ∀ S1, (match s with | .tmp t0 => if d' ≠ t0 then some { S with s := upd (upd S.s t0 (S.s t0).view) d' (.own e' q.1 (xs ++ ys)) } else none | _ => some (S.put d' (.own e' q.1 (xs ++ ys)))) = some S1 → S2 = S1.put d v → Same o S S1 →
          ∃ S1, (∃ e', slcS P t = some e' ∧ ∃ q, elS P e' = some q ∧ (if notInt P u = true ∧ 0 < q.1 ∧ ((e = e' ∧ k = q.1) ∨ (k = 0 ∧ xs = [])) ∧ V.allSize q.1 ys ∧ (xs.length + ys.length) * q.2 ≤ 140737488355328 ∧ xs.length + ys.length ≤ 9223372036854775807 then
        match s with
        | .tmp t0 => if d' ≠ t0 then some { S with s := upd (upd S.s t0 (S.s t0).view) d' (.own e' q.1 (xs ++ ys)) } else none
        | _ => some (S.put d' (.own e' q.1 (xs ++ ys)))
      else none) = some S1) ∧ S2 = S1.put d v ∧ Same o S S1 := fun S1 h1 h2 h3 => ⟨S1, ⟨e', he', q, hq, by rw [if_pos hcond]; exact h1⟩, h2, h3⟩
      cases s with
      | tmp t0 =>
        simp only at h
        split at h
        · rename_i hd0
          injection h with h; subst h
          have ht : t0 ≠ d := fun e => hs (e ▸ rfl)
          refine fin _ (if_pos hd0) ?_ ⟨rfl, fun j hj hj' => ?_⟩
          · simp only [AS.put]
            have : upd S.s d v t0 = S.s t0 := by simp [upd, ht]
            rw [this, upd_comm _ _ _ (Ne.symm ht), upd_comm _ _ _ hne]
          · have h1 : j ≠ d' := fun e => hj' (e ▸ hdst)
            have h2 : j ≠ t0 := fun e => hj (by simp [gives, ho, hc, hargs, e])
            simp [upd, h1, h2]
        · cases h
      | const c => simp only at h; injection h with h; subst h; exact fin _ rfl (put_comm v _ hne) (Same.put hdst _)
      | global c => simp only at h; injection h with h; subst h; exact fin _ rfl (put_comm v _ hne) (Same.put hdst _)
      | func c => simp only at h; injection h with h; subst h; exact fin _ rfl (put_comm v _ hne) (Same.put hdst _)
    · cases h
  · cases h

end
end Go.AL
