import Derived.Test.YtddncbgdoplgiaaGreatAlXa
namespace Go.AL
open Go.RowKit

section
variable {P : Program} {C : Ctx} {S : AS} {a : Act} {w w' : World} {G : Gh} {ρ ρ' : List Nat} {K : Nat → Nat}

/-! ### a region whose order is open -/
noncomputable def heavyA (P : Program) (bs : List Nat) (o : Oper) (K : AS → Prop) (S : AS) : Prop :=
  match o.op with
  | .call c =>
    match c.callee with
    | .value x =>
      match S.ev x with
      | .fn f caps => (match o.dst with | some d => d < S.n | none => True) ∧
          CallK P f ((c.args.toList.map fun x => (S.ev x).view) ++ caps) S.st fun v st' => K (putO { S with st := st' } o.dst v)
      | _ => False
    | _ => optK (evOp P bs.contains S o) K
  | _ => optK (evOp P bs.contains S o) K

/-- o comes to v in slot d, or is skipped -/
def Good (P : Program) (ops : Array Oper) (o : Oper) (d : Nat) (v : V) (S : AS) : Prop :=
  d < S.n ∧ ((wantA ops.toList S o = some true ∧ ∀ C, OpA P C o S (· = S.put d v)) ∨ (wantA ops.toList S o = some false ∧ v = .tup []))

/-- and so it does wherever the slots that it looks at (and, of class 1, the objects) are the same -/
def AgC (c : Nat) (a b : List Ob) : Prop := c = 0 ∨ a = b ∨ ∃ n, c = n + 2 ∧ a[n]? = b[n]?
theorem AgC.rfl' {c : Nat} {a : List Ob} : AgC c a a := .inr (.inl rfl)
theorem AgC.trans {c : Nat} {a b d : List Ob} (h1 : AgC c a b) (h2 : AgC c b d) : AgC c a d := by
  rcases h1 with h | h | ⟨n, h, e⟩
  · exact .inl h
  · rw [h]; exact h2
  · rcases h2 with h' | h' | ⟨m, h', e'⟩
    · exact .inl h'
    · rw [← h']; exact .inr (.inr ⟨n, h, e⟩)
    · have : n = m := by omega
      subst this
      exact .inr (.inr ⟨n, h, e.trans e'⟩)
theorem AgC.one {a b : List Ob} (h : AgC 1 a b) : a = b := by
  rcases h with h | h | ⟨n, h, _⟩
  · cases h
  · exact h
  · omega
def Yv (c : Nat) (P : Program) (ops : Array Oper) (o : Oper) (d : Nat) (v : V) (S : AS) : Prop :=
  ∀ S1 : AS, S1.n = S.n → AgC c S1.st S.st → (∀ t ∈ o.looksAt ops, S1.s t = S.s t) → Good P ops o d v S1

/-- class 0: the value rests on the slots; 1: on the slots and objects; 2: the rest -/
def stepA (P : Program) (ops : Array Oper) (bs : List Nat) (cls : Nat → Nat) (i : Nat) (K : AS → Prop) (S : AS) : Prop :=
  match ops[i]? with
  | none => K S
  | some o =>
    if cls i < 2 then ∃ d v, o.dst = some d ∧ Yv (cls i) P ops o d v S ∧ K (S.put d v)
    else match wantA ops.toList S o with
      | none => False
      | some false => (match o.dst with | some d => d < S.n | none => True) ∧ K (S.skip o.dst)
      | some true => heavyA P bs o K S

theorem CallK.mono {f : Nat} {args : List V} {st : List Ob} {K K' : V → List Ob → Prop} (h : CallK P f args st K) (hk : ∀ v st', K v st' → K' v st') : CallK P f args st K' := by
  rcases h with ⟨h1, Q, h2, h3⟩ | ⟨v, h1, h2⟩
  · exact .inl ⟨h1, Q, h2, fun v st' hq => hk _ _ (h3 v st' hq)⟩
  · exact .inr ⟨v, h1, hk _ _ h2⟩

theorem heavyA_mono {bs : List Nat} {o : Oper} {K K' : AS → Prop} (hk : ∀ S, K S → K' S) (h : heavyA P bs o K S) : heavyA P bs o K' S := by
  unfold heavyA at *
  split
  · rename_i c hc
    simp only [hc] at h
    split
    · rename_i x hx
      simp only [hx] at h
      split
      · rename_i f caps hf
        simp only [hf] at h
        exact ⟨h.1, h.2.mono fun _ _ h => hk _ h⟩
      · rename_i hf; split at h
        · rename_i f caps hf'; exact (hf f caps hf').elim
        · exact h
    · rename_i hx; split at h
      · rename_i x hx'; exact (hx x hx').elim
      · exact optK_mono h hk
  · rename_i hc; split at h
    · rename_i c hc'; exact (hc c hc').elim
    · exact optK_mono h hk

theorem stepA_mono {ops : Array Oper} {bs : List Nat} {cls : Nat → Nat} {i : Nat} {K K' : AS → Prop} (hk : ∀ S, K S → K' S) (h : stepA P ops bs cls i K S) : stepA P ops bs cls i K' S := by
  unfold stepA at *
  cases ho : ops[i]? with
  | none => simp only [ho] at h ⊢; exact hk _ h
  | some o =>
    simp only [ho] at h ⊢
    split
    · rename_i hl
      rw [if_pos hl] at h
      obtain ⟨d, v, h1, h2, h3⟩ := h
      exact ⟨d, v, h1, h2, hk _ h3⟩
    · rename_i hl
      rw [if_neg hl] at h
      cases hw : wantA ops.toList S o with
      | none => simp only [hw] at h
      | some b =>
        simp only [hw] at h ⊢
        cases b with
        | false => exact ⟨h.1, hk _ h.2⟩
        | true => exact heavyA_mono hk h

theorem heavyA_sound {bs : List Nat} {o : Oper} {K : AS → Prop} (h : heavyA P bs o K S) : OpA P C o S K := by
  have ev : optK (evOp P bs.contains S o) K → OpA P C o S K := fun h => by
    unfold optK at h
    split at h
    · rename_i S' he
      exact (evOp_sound he).mono fun S'' e => e ▸ h
    · exact h.elim
  unfold heavyA at h
  split at h
  · rename_i c ho
    split at h
    · rename_i x hc
      split at h
      · rename_i f caps hx
        obtain ⟨hd, ⟨hown, Q, hf, hk⟩ | ⟨v, hv, hk⟩⟩ := h
        · refine (OpA.call ho hc hx hown (fun d hd' => ?_) hf).mono fun S' ⟨v, st', hq, e⟩ => e ▸ hk v st' hq
          rw [hd'] at hd; exact hd
        · refine (OpA.native ho hc hx (fun d hd' => ?_) hv).mono fun S' e => e ▸ hk
          rw [hd'] at hd; exact hd
      · exact h.elim
    · exact ev h
  · exact ev h

theorem stepA_sound {ops : Array Oper} {bs : List Nat} {cls : Nat → Nat} {i : Nat} {K : AS → Prop} (hR : Rel C S a w G) (h : stepA P ops bs cls i K S) {Q : Exit → Act → World → Prop} {next : Act → World → Prop}
    (hn : ∀ S' a' w' G', K S' → Rel C S' a' w' G' → next a' w') : wpOp P ops Q i next a w := by
  unfold stepA at h
  unfold wpOp
  cases ho : ops[i]? with
  | none => simp only [ho] at h ⊢; exact hn _ _ _ _ h hR
  | some o =>
    simp only [ho] at h ⊢
    split at h
    · obtain ⟨d, v, hd, hy, hk⟩ := h
      obtain ⟨hlt, hg⟩ := hy S rfl .rfl' (fun _ _ => rfl)
      rcases hg with ⟨hw, hop⟩ | ⟨hw, rfl⟩
      · rw [wantA_spec hR hw]
        simp only [if_true]
        exact .inl (hop C a w G next Q hR fun S' a' w' G' e hR' => hn S' a' w' G' (e ▸ hk) hR')
      · rw [wantA_spec hR hw]
        simp only [Bool.false_eq_true, if_false]
        obtain ⟨G', hR'⟩ := hR.skip (dst := o.dst) (fun d' hd' => by rw [hd] at hd'; injection hd' with e; subst e; exact hlt)
        exact hn _ _ _ _ (by rw [hd]; exact hk) hR'
    · cases hw : wantA ops.toList S o with
      | none => simp only [hw] at h
      | some b =>
        simp only [hw] at h
        rw [wantA_spec hR hw]
        cases b with
        | false =>
          simp only at h
          simp only [Bool.false_eq_true, if_false]
          obtain ⟨G', hR'⟩ := hR.skip (dst := o.dst) (fun d hd => by have := h.1; rw [hd] at this; exact this)
          exact hn _ _ _ _ h.2 hR'
        | true =>
          simp only at h
          simp only [if_true]
          exact .inl (heavyA_sound h a w G next Q hR hn)

/-! commuting -/
theorem wantA_congr {ops : Array Oper} {o : Oper} {S1 : AS} (h : ∀ t ∈ o.looksAt ops, S1.s t = S.s t) : wantA ops.toList S1 o = wantA ops.toList S o := by
  unfold wantA
  cases hg : o.guard with
  | none => rfl
  | some g =>
    obtain ⟨j, b⟩ := g
    simp only
    cases hd : (ops.toList[j]?).bind (·.dst) with
    | none => rfl
    | some d =>
      simp only
      have : S1.s d = S.s d := h d (by
        have hd' : (ops[j]?).bind (·.dst) = some d := by simpa using hd
        simp [Oper.looksAt, hg, hd'])
      rw [this]

theorem ev_looks {ops : Array Oper} {o : Oper} {S1 : AS} (h : ∀ t ∈ o.looksAt ops, S1.s t = S.s t) : ∀ x ∈ o.op.operands, S1.ev x = S.ev x := by
  intro x hx
  cases x with
  | tmp t => exact h t (List.mem_append_left _ (List.mem_filterMap.2 ⟨.tmp t, by simpa using hx, rfl⟩))
  | _ => rfl

theorem not_operand {ops : Array Oper} {o : Oper} {d : Nat} (h : d ∉ o.looksAt ops) : ∀ x ∈ o.op.operands, x ≠ .tmp d := by
  intro x hx e
  subst e
  exact h (List.mem_append_left _ (List.mem_filterMap.2 ⟨.tmp d, by simpa using hx, rfl⟩))

theorem Yv.congr {c : Nat} {ops : Array Oper} {o : Oper} {d : Nat} {v : V} {S1 : AS} (hy : Yv c P ops o d v S) (hn : S1.n = S.n) (hst : AgC c S1.st S.st) (h : ∀ t ∈ o.looksAt ops, S1.s t = S.s t) : Yv c P ops o d v S1 := by
  intro S2 h1 h2 h3
  exact hy S2 (h1.trans hn) (h2.trans hst) fun t ht => (h3 t ht).trans (h t ht)

theorem Yv.cls {c k : Nat} {ops : Array Oper} {o : Oper} {d : Nat} {v : V} (hk : k < 2) (hc : k = 0 → c = 0) (hy : Yv c P ops o d v S) : Yv k P ops o d v S := by
  intro S1 h1 h2 h3
  refine hy S1 h1 ?_ h3
  rcases Nat.lt_or_ge k 1 with h | h
  · exact .inl (hc (by omega))
  · have : k = 1 := by omega
    subst this
    exact .inr (.inl h2.one)

theorem put_looks {o : Oper} {ops : Array Oper} {d : Nat} {v : V} (h : d ∉ o.looksAt ops) : ∀ t ∈ o.looksAt ops, (S.put d v).s t = S.s t := fun t ht => by
  have : t ≠ d := fun e => h (e ▸ ht)
  simp [AS.put, upd, this]

def Eff (bs : List Nat) (o : Oper) (S S1 : AS) : Prop :=
  (keepsSt bs.contains o = true → S1.st = S.st) ∧ (∀ t, addrOf o = some t → S1.st.length = S.st.length ∧ ∀ o' off p, S.s t = .ptr o' off p → ∀ n, n ≠ o' → S1.st[n]? = S.st[n]?) ∧ (growsSt o = true → ∃ x, S1.st = S.st ++ [x])

/-- a value with footprint c does not feel operation o -/
def Indep (bs : List Nat) (c : Nat) (ops : Array Oper) (oi oj : Oper) (S : AS) : Prop :=
  (∀ t ∈ gives oj, t ∉ oi.looksAt ops) ∧ (c = 0 ∨ keepsSt bs.contains oj = true ∨ (∃ t n o off p, addrOf oj = some t ∧ c = n + 2 ∧ S.s t = .ptr o off p ∧ n ≠ o) ∨ (growsSt oj = true ∧ ∃ n, c = n + 2 ∧ n < S.st.length))

theorem Indep.ag {bs : List Nat} {c : Nat} {ops : Array Oper} {oi oj : Oper} {S S1 : AS} (h : Indep bs c ops oi oj S) (he : Eff bs oj S S1) : AgC c S1.st S.st := by
  rcases h.2 with h | h | ⟨t, n, o, off, p, h1, h2, h3, h4⟩ | ⟨h1, n, h2, h3⟩
  · exact .inl h
  · exact .inr (.inl (he.1 h))
  · exact .inr (.inr ⟨n, h2, (he.2.1 t h1).2 o off p h3 n h4⟩)
  · obtain ⟨x, hx⟩ := he.2.2 h1
    exact .inr (.inr ⟨n, h2, by rw [hx, List.getElem?_append_left h3]⟩)

theorem Indep.len {bs : List Nat} {c : Nat} {ops : Array Oper} {oi oj : Oper} {S S1 : AS} (h : Indep bs c ops oi oj S) (he : Eff bs oj S S1) (hc : c ≠ 0) : S.st.length ≤ S1.st.length := by
  rcases h.2 with h | h | ⟨t, n, o, off, p, h1, h2, h3, h4⟩ | ⟨h1, n, h2, h3⟩
  · exact (hc h).elim
  · rw [he.1 h]; exact Nat.le_refl _
  · rw [(he.2.1 t h1).1]; exact Nat.le_refl _
  · obtain ⟨x, hx⟩ := he.2.2 h1
    rw [hx]; simp

theorem heavyA_frame {ops : Array Oper} {bs : List Nat} {oj : Oper} {K : AS → Prop} {d : Nat} {v : V} (hd : d ∉ oj.looksAt ops) (hne : oj.dst ≠ some d) (h : heavyA P bs oj K (S.put d v)) :
    heavyA P bs oj (fun S1 => (Same oj S S1 ∧ Eff bs oj S S1) ∧ K (S1.put d v)) S := by
  have hop := not_operand hd
  have ev : optK (evOp P bs.contains (S.put d v) oj) K → optK (evOp P bs.contains S oj) (fun S1 => (Same oj S S1 ∧ Eff bs oj S S1) ∧ K (S1.put d v)) := fun h => by
    unfold optK at h
    split at h
    · rename_i S2 he
      obtain ⟨S1, h1, h2, h3⟩ := evOp_frame hop hne he
      rw [h1]
      exact ⟨⟨h3, fun hk => evOp_keeps hk h1, fun t ha => ⟨evOp_addr_len ha h1, fun o off p ht => evOp_addr ha ht h1⟩, fun hg => evOp_grows hg h1⟩, h2 ▸ h⟩
    · exact h.elim
  unfold heavyA at *
  split
  · rename_i c hc
    simp only [hc] at h
    split
    · rename_i x hx
      simp only [hx] at h
      have hxo : x ≠ .tmp d := hop x (by simp [hc, Op.operands, Call.operands, hx])
      rw [ev_put hxo] at h
      have hargs : (c.args.toList.map fun x => ((S.put d v).ev x).view) = c.args.toList.map fun x => (S.ev x).view := List.map_congr_left fun y hy => by
        rw [ev_put (hop y (by simp only [hc, Op.operands, Call.operands, Array.mem_append]; exact .inr (by simpa using hy)))]
      split
      · rename_i f caps hf
        simp only [hf] at h
        rw [hargs] at h
        refine ⟨h.1, h.2.mono fun u st' hk => ⟨⟨?_, ?_, ?_, ?_⟩, ?_⟩⟩
        · cases hdj : oj.dst with
          | none => exact ⟨rfl, fun _ _ _ => rfl⟩
          | some d' => exact ⟨rfl, fun j _ hj => by have : j ≠ d' := fun e => hj (by rw [e, hdj]); simp [putO, AS.put, upd, this]⟩
        · intro hk; simp [keepsSt, hc, hx] at hk
        · intro t ha; simp [addrOf, hc] at ha
        · intro hg; simp [growsSt, hc] at hg
        · cases hdj : oj.dst with
          | none => rw [hdj] at hk; exact hk
          | some d' =>
            have hne' : d ≠ d' := fun e => hne (by rw [hdj, e])
            rw [hdj] at hk
            have : (putO { S with st := st' } (some d') u).put d v = putO { S.put d v with st := st' } (some d') u := by
              simp only [putO, AS.put]; rw [upd_comm _ _ _ hne']
            rw [this]; exact hk
      · rename_i hf; split at h
        · rename_i f caps hf'; exact (hf f caps hf').elim
        · exact h.elim
    · rename_i hx; split at h
      · rename_i x hx'; exact (hx x hx').elim
      · exact ev h
  · rename_i hc; split at h
    · rename_i c hc'; exact (hc c hc').elim
    · exact ev h

theorem stepA_put {ops : Array Oper} {bs : List Nat} {cls : Nat → Nat} {c j d : Nat} {oi oj : Oper} {v : V} {K : AS → Prop} (hj : ops[j]? = some oj) (hdi : oi.dst = some d) (hap : oi.apart ops oj = true)
    (hgv : ¬ cls j < 2 → Indep bs c ops oi oj S) (hy : Yv c P ops oi d v S) (h : stepA P ops bs cls j K (S.put d v)) :
    stepA P ops bs cls j (fun S1 => (Yv c P ops oi d v S1 ∧ (∀ t, oj.dst ≠ some t → t ∉ gives oj → S1.s t = S.s t) ∧ (c ≠ 0 → S.st.length ≤ S1.st.length)) ∧ K (S1.put d v)) S := by
  obtain ⟨h1, h2, h3⟩ := Oper.apart_spec hap
  have hd1 := h1 d hdi
  have hd2 := h2 d hdi
  have put_s : ∀ (d' : Nat) (u : V) t, oj.dst = some d' → oj.dst ≠ some t → (S.put d' u).s t = S.s t := fun d' u t hd' ht => by
    have : t ≠ d' := fun e => ht (e ▸ hd')
    simp [AS.put, upd, this]
  unfold stepA at *
  simp only [hj] at *
  split
  · rename_i hl
    rw [if_pos hl] at h
    obtain ⟨d', v', hdj, hyj, hk⟩ := h
    have hne' : d ≠ d' := fun e => hd2 (by rw [hdj, e])
    refine ⟨d', v', hdj, hyj.congr (S1 := S) rfl .rfl' (fun t ht => (put_looks hd1 t ht).symm), ⟨hy.congr rfl .rfl' (put_looks (h3 d' hdj)), fun t ht _ => put_s d' v' t hdj ht, fun _ => Nat.le_refl _⟩, ?_⟩
    rw [← put_comm v v' hne']; exact hk
  · rename_i hl
    rw [if_neg hl] at h
    have hgv := hgv hl
    rw [wantA_congr (put_looks hd1)] at h
    cases hw : wantA ops.toList S oj with
    | none => simp only [hw] at h
    | some b =>
      simp only [hw] at h ⊢
      cases b with
      | false =>
        simp only at h ⊢
        refine ⟨h.1, ⟨?_, ?_, ?_⟩, ?_⟩
        · cases hdj : oj.dst with
          | none => exact hy
          | some d' => exact hy.congr rfl .rfl' (put_looks (h3 d' hdj))
        · intro t ht _
          cases hdj : oj.dst with
          | none => rfl
          | some d' => exact put_s d' _ t hdj ht
        · intro _; cases hdj : oj.dst <;> exact Nat.le_refl _
        · have := h.2
          cases hdj : oj.dst with
          | none => rw [hdj] at this; exact this
          | some d' =>
            have hne' : d ≠ d' := fun e => hd2 (by rw [hdj, e])
            rw [hdj] at this
            simp only [AS.skip] at this ⊢
            rw [← put_comm v _ hne']; exact this
      | true =>
        simp only at h ⊢
        exact heavyA_mono (fun S1 ⟨⟨⟨hn, hs⟩, he⟩, hk⟩ => ⟨⟨hy.congr hn (hgv.ag he) fun t ht => hs t (fun hg => hgv.1 t hg ht) (fun e => h3 t e ht), fun t ht hg => hs t hg ht, fun hc => hgv.len he hc⟩, hk⟩) (heavyA_frame (S := S) hd1 hd2 h)

/-! any order -/
def anyA (P : Program) (md : Region.Mode) (ops : Array Oper) (bs : List Nat) (cls : Nat → Nat) (K : AS → Prop) : Nat → Array Bool → AS → Prop
  | 0, listed, S => Region.ready md ops listed = [] ∧ K S
  | fuel + 1, listed, S =>
    (Region.ready md ops listed = [] → K S) ∧
    ∀ i ∈ Region.ready md ops listed, stepA P ops bs cls i (anyA P md ops bs cls K fuel (listed.setIfInBounds i true)) S

theorem anyA_sound {md : Region.Mode} {ops : Array Oper} {bs : List Nat} {cls : Nat → Nat} {K : AS → Prop} {Q : Exit → Act → World → Prop} (hn : ∀ S' a' w' G', K S' → Rel C S' a' w' G' → Q .normal a' w') :
    ∀ (fuel : Nat) (listed : Array Bool) (S : AS) (a : Act) (w : World) (G : Gh), Rel C S a w G → anyA P md ops bs cls K fuel listed S → wpAny P md ops Q fuel listed a w
  | 0, _, _, _, _, _, hR, h => ⟨h.1, hn _ _ _ _ h.2 hR⟩
  | fuel + 1, _, _, _, _, _, hR, h => ⟨fun h0 => hn _ _ _ _ (h.1 h0) hR, fun i hi => stepA_sound hR (h.2 i hi) fun S' a' w' G' hk hR' => anyA_sound hn fuel _ S' a' w' G' hR' hk⟩

theorem stepA_light {ops : Array Oper} {bs : List Nat} {cls : Nat → Nat} {i d : Nat} {o : Oper} {v : V} {K : AS → Prop} (ho : ops[i]? = some o) (hl : cls i < 2) (hd : o.dst = some d) (hy : Yv (cls i) P ops o d v S) (hk : K (S.put d v)) :
    stepA P ops bs cls i K S := by
  unfold stepA
  simp only [ho, if_pos hl]
  exact ⟨d, v, hd, hy, hk⟩

/-- while i waits: what is needed of every other operation that may come -/
def Free (md : Region.Mode) (ops : Array Oper) (bs : List Nat) (cls : Nat → Nat) (c i : Nat) (oi : Oper) (listed : Array Bool) (S : AS) : Prop :=
  ∀ j oj, ops[j]? = some oj → j ≠ i → listed.getD j true = false → (∀ e ∈ oj.after, Region.binds md e = true → e.on ≠ i) →
    oi.apart ops oj = true ∧ (¬ cls j < 2 → Indep bs c ops oi oj S ∧ ((c = 0 ∨ keepsSt bs.contains oj = true ∨ growsSt oj = true) ∨ ∀ t, addrOf oj = some t → ∀ k ok, ops[k]? = some ok → k ≠ i → k ≠ j → listed.getD k true = false → ok.dst ≠ some t ∧ t ∉ gives ok))

theorem anyA_first {md : Region.Mode} {ops : Array Oper} {bs : List Nat} {cls : Nat → Nat} {K : AS → Prop} {c i d : Nat} {oi : Oper} {v : V} (hi : ops[i]? = some oi) (hl : cls i < 2) (hc : cls i = 0 → c = 0) (hdi : oi.dst = some d) :
    ∀ (fuel : Nat) (listed : Array Bool) (S : AS), Free md ops bs cls c i oi listed S → i ∈ Region.ready md ops listed → Yv c P ops oi d v S →
      anyA P md ops bs cls K fuel (listed.setIfInBounds i true) (S.put d v) → anyA P md ops bs cls K (fuel + 1) listed S := by
  intro fuel
  induction fuel with
  | zero =>
    intro listed S _ hr hy H
    refine ⟨fun h => (by rw [h] at hr; cases hr), fun j hj => ?_⟩
    by_cases hji : j = i
    · subst hji; exact stepA_light hi hl hdi (hy.cls hl hc) H
    · have := ready_mono hj hji
      rw [H.1] at this
      cases this
  | succ fuel ih =>
    intro listed S hfree hr hy H
    refine ⟨fun h => (by rw [h] at hr; cases hr), fun j hj => ?_⟩
    by_cases hji : j = i
    · subst hji; exact stepA_light hi hl hdi (hy.cls hl hc) H
    · have h1 := H.2 j (ready_mono hj hji)
      obtain ⟨hjun, oj, hoj, hall⟩ := mem_ready.1 hj
      have hnot : ∀ e ∈ oj.after, Region.binds md e = true → e.on ≠ i := fun e he hb heq => by
        have h1 := hall e he hb
        have h0 := (mem_ready.1 hr).1
        rw [heq] at h1
        rcases Nat.lt_or_ge i listed.size with h' | h'
        · simp [h'] at h0 h1; rw [h0] at h1; cases h1
        · simp [Array.getElem?_eq_none h'] at h1
      have hf := hfree j oj hoj hji hjun hnot
      have h2 := stepA_put (cls := cls) hoj hdi hf.1 (fun h => (hf.2 h).1) hy h1
      have hun' : ∀ k, (listed.setIfInBounds j true).getD k true = false → listed.getD k true = false := fun k hun => by
        by_cases hjk : j = k
        · subst hjk; exact hjun
        · rw [getD_set_ne true hjk] at hun; exact hun
      have hnj : ∀ k, (listed.setIfInBounds j true).getD k true = false → k ≠ j := fun k hun e => by
        subst e
        rw [Array.getD_eq_getD_getElem?, Array.getElem?_setIfInBounds] at hun
        simp only [if_true] at hun
        split at hun <;> simp at hun
      refine stepA_mono (fun S' h3 => ih (listed.setIfInBounds j true) S' (fun k ok hk hki hun hno => ?_) (ready_mono hr (Ne.symm hji)) h3.1.1 ?_) h2
      · have hkk := hfree k ok hk hki (hun' k hun) hno
        refine ⟨hkk.1, fun hcl => ?_⟩
        obtain ⟨hind, hst⟩ := hkk.2 hcl
        refine ⟨⟨hind.1, ?_⟩, ?_⟩
        · rcases hind.2 with h | h | ⟨t, n, o, off, p, g1, g2, g3, g4⟩ | ⟨h, n, g2, g3⟩
          · exact .inl h
          · exact .inr (.inl h)
          · rcases hst with (h | h | h) | hst
            · exact .inl h
            · exact .inr (.inl h)
            · refine .inr (.inr (.inr ⟨h, n, g2, ?_⟩))
              unfold growsSt at h
              unfold addrOf at g1
              split at g1
              · rename_i ho; simp [ho] at h
              · cases g1
            · have hw := hst t g1 j oj hoj hji (Ne.symm (hnj k hun)) hjun
              exact .inr (.inr (.inl ⟨t, n, o, off, p, g1, g2, (h3.1.2.1 t hw.1 hw.2).trans g3, g4⟩))
          · exact .inr (.inr (.inr ⟨h, n, g2, Nat.lt_of_lt_of_le g3 (h3.1.2.2 (by omega))⟩))
        · rcases hst with h | hst
          · exact .inl h
          · exact .inr fun t ht k' ok' hk' h4 h5 h6 => hst t ht k' ok' hk' h4 h5 (hun' k' h6)
      · rw [Array.setIfInBounds_comm _ _ hji]
        exact h3.2

/-! coming to a value -/
theorem Yv.light {c : Nat} {ops : Array Oper} {o : Oper} {d : Nat} {v : V} (hd : o.dst = some d) (hn : d < S.n) (hw : wantA ops.toList S o = some true) (hv : lightV P S o = some v) : Yv c P ops o d v S := by
  intro S1 h1 _ h3
  refine ⟨by rw [h1]; exact hn, .inl ⟨by rw [wantA_congr h3]; exact hw, fun C => light_sound hd (by rw [h1]; exact hn) ?_⟩⟩
  rw [lightV_congr (ev_looks h3)]; exact hv

theorem Yv.skip {c : Nat} {ops : Array Oper} {o : Oper} {d : Nat} (hn : d < S.n) (hw : wantA ops.toList S o = some false) : Yv c P ops o d (.tup []) S := by
  intro S1 h1 _ h3
  exact ⟨by rw [h1]; exact hn, .inr ⟨by rw [wantA_congr h3]; exact hw, rfl⟩⟩

/-- a load from an object rests on that object alone -/
theorem Yv.loadO {ops : Array Oper} {o : Oper} {d t oo off : Nat} {p : List Nat} {x : Operand} {v : V} (ho : o.op = .load t x) (hx : S.ev x = .ptr oo off p) (hd : o.dst = some d) (hn : d < S.n) (hw : wantA ops.toList S o = some true) (hv : evLoad P t S (S.ev x) = some v) : Yv (oo + 2) P ops o d v S := by
  intro S1 h1 h2 h3
  have hst : S1.st[oo]? = S.st[oo]? := by
    rcases h2 with h | h | ⟨n, h, e⟩
    · omega
    · rw [h]
    · have : n = oo := by omega
      rw [← this]; exact e
  have hn1 : d < S1.n := by rw [h1]; exact hn
  refine ⟨hn1, .inl ⟨by rw [wantA_congr h3]; exact hw, fun C => evOp_sound (base := fun _ => false) ?_⟩⟩
  have hx' : S1.ev x = S.ev x := ev_looks h3 x (by simp [ho, Op.operands])
  have : evLoad P t S1 (S.ev x) = some v := by
    rw [← hv, hx]
    unfold evLoad AS.deref
    simp only [hst]
  simp [evOp, isBase, ho, hd, putD, hn1, hx', this]

theorem Yv.load {ops : Array Oper} {o : Oper} {d t : Nat} {x : Operand} {v : V} (ho : o.op = .load t x) (hd : o.dst = some d) (hn : d < S.n) (hw : wantA ops.toList S o = some true) (hv : evLoad P t S (S.ev x) = some v) : Yv 1 P ops o d v S := by
  intro S1 h1 h2 h3
  have hst : S1.st = S.st := h2.one
  have hn1 : d < S1.n := by rw [h1]; exact hn
  refine ⟨hn1, .inl ⟨by rw [wantA_congr h3]; exact hw, fun C => evOp_sound (base := fun _ => false) ?_⟩⟩
  have hx : S1.ev x = S.ev x := ev_looks h3 x (by simp [ho, Op.operands])
  have : evLoad P t S1 (S.ev x) = some v := by
    rw [← hv]
    unfold evLoad AS.deref
    rw [hst]
  simp [evOp, isBase, ho, hd, putD, hn1, hx, this]

theorem Yv.call {ops : Array Oper} {o : Oper} {d f : Nat} {c : Call} {x : Operand} {caps : List V} {v : V} (ho : o.op = .call c) (hc : c.callee = .value x) (hx : S.ev x = .fn f caps) (hown : isOwn P f = true) (hd : o.dst = some d) (hn : d < S.n)
    (hw : wantA ops.toList S o = some true) (ha : V.aheads 0 ((c.args.toList.map fun x => (S.ev x).view) ++ caps) = true)
    (hf : FnA P f ((c.args.toList.map fun x => (S.ev x).view) ++ caps) [] fun v' st' => v' = v ∧ st' = []) : Yv 0 P ops o d v S := by
  intro S1 h1 _ h3
  have hn1 : d < S1.n := by rw [h1]; exact hn
  have hev := ev_looks h3
  have hargs : (c.args.toList.map fun x => (S1.ev x).view) = c.args.toList.map fun x => (S.ev x).view := List.map_congr_left fun y hy => by
    rw [hev y (by simp only [ho, Op.operands, Call.operands, Array.mem_append]; exact .inr (by simpa using hy))]
  have hx1 : S1.ev x = .fn f caps := by rw [hev x (by simp [ho, Op.operands, Call.operands, hc])]; exact hx
  refine ⟨hn1, .inl ⟨by rw [wantA_congr h3]; exact hw, fun C => ?_⟩⟩
  refine (OpA.call ho hc hx1 hown (fun d' hd' => by rw [hd] at hd'; injection hd' with e; subst e; exact hn1) (Q := fun v' st' => v' = v ∧ st' = S1.st) ?_).mono fun S' ⟨v', st', ⟨e1, e2⟩, e⟩ => ?_
  · rw [hargs]; exact hf.iso ha S1.st
  · rw [e, e1, e2, hd]; rfl

theorem Yv.lookup {ops : Array Oper} {o : Oper} {d t : Nat} {x y : Operand} {ok : Bool} {v : V} (ho : o.op = .lookup t x y ok) (hd : o.dst = some d) (hn : d < S.n) (hw : wantA ops.toList S o = some true) (hv : evLookup P t S (S.ev x) (S.ev y) ok = some v) : Yv 1 P ops o d v S := by
  intro S1 h1 h2 h3
  have hst : S1.st = S.st := h2.one
  have hn1 : d < S1.n := by rw [h1]; exact hn
  refine ⟨hn1, .inl ⟨by rw [wantA_congr h3]; exact hw, fun C => evOp_sound (base := fun _ => false) ?_⟩⟩
  have hx : S1.ev x = S.ev x := ev_looks h3 x (by simp [ho, Op.operands])
  have hy : S1.ev y = S.ev y := ev_looks h3 y (by simp [ho, Op.operands])
  have : evLookup P t S1 (S.ev x) (S.ev y) ok = some v := by
    rw [← hv]
    unfold evLookup AS.mapOf
    rw [hst]
  simp [evOp, ho, hd, putD, hn1, hx, hy, this]

/-- a call that leaves the objects alone -/
theorem Yv.call1 {ops : Array Oper} {o : Oper} {d f : Nat} {c : Call} {x : Operand} {caps : List V} {v : V} (ho : o.op = .call c) (hc : c.callee = .value x) (hx : S.ev x = .fn f caps) (hown : isOwn P f = true) (hd : o.dst = some d) (hn : d < S.n)
    (hw : wantA ops.toList S o = some true) (hf : FnA P f ((c.args.toList.map fun x => (S.ev x).view) ++ caps) S.st fun v' st' => v' = v ∧ st' = S.st) : Yv 1 P ops o d v S := by
  intro S1 h1 h2 h3
  have hst : S1.st = S.st := h2.one
  have hn1 : d < S1.n := by rw [h1]; exact hn
  have hev := ev_looks h3
  have hargs : (c.args.toList.map fun x => (S1.ev x).view) = c.args.toList.map fun x => (S.ev x).view := List.map_congr_left fun y hy => by
    rw [hev y (by simp only [ho, Op.operands, Call.operands, Array.mem_append]; exact .inr (by simpa using hy))]
  have hx1 : S1.ev x = .fn f caps := by rw [hev x (by simp [ho, Op.operands, Call.operands, hc])]; exact hx
  refine ⟨hn1, .inl ⟨by rw [wantA_congr h3]; exact hw, fun C => ?_⟩⟩
  refine (OpA.call ho hc hx1 hown (fun d' hd' => by rw [hd] at hd'; injection hd' with e; subst e; exact hn1) (Q := fun v' st' => v' = v ∧ st' = S1.st) ?_).mono fun S' ⟨v', st', ⟨e1, e2⟩, e⟩ => ?_
  · rw [hargs, hst]; exact hf
  · rw [e, e1, e2, hd]; rfl

end
end Go.AL
