import Derived.Test.YtddncbgdoplgiaaGreatAlX
namespace Go.AL
open Go.RowKit

section
variable {P : Program} {C : Ctx} {S : AS} {a : Act} {w w' : World} {G : Gh} {ρ ρ' : List Nat} {K : Nat → Nat}

/-! ### which operations of a region whose order is open may come first -/
/-- D: the slots of addresses that are looked at when it comes -/
def freeS (md : Region.Mode) (ops : Array Oper) (bs : List Nat) (cls : Nat → Nat) (listed : Array Bool) (b : Bool) (D : List Nat) (i : Nat) : Bool :=
  match ops[i]? with
  | none => false
  | some oi => oi.dst.isSome && (List.range ops.size).all fun j => j == i || listed.getD j true || match ops[j]? with
      | some oj => oj.after.any (fun e => Region.binds md e && e.on == i) || (oi.apart ops oj && (decide (cls j < 2) ||
          (((gives oj).all fun t => !(oi.looksAt ops).contains t) && (decide (cls i = 0) || keepsSt bs.contains oj || (b && growsSt oj) || b && match addrOf oj with
            | some t => D.contains t && (List.range ops.size).all fun k => k == i || k == j || listed.getD k true || match ops[k]? with
                | some ok => ok.dst != some t && !(gives ok).contains t
                | none => true
            | none => false))))
      | none => true

theorem freeS_spec {md : Region.Mode} {ops : Array Oper} {bs : List Nat} {cls : Nat → Nat} {listed : Array Bool} {b : Bool} {D : List Nat} {i : Nat} (h : freeS md ops bs cls listed b D i = true) :
    ∃ oi d, ops[i]? = some oi ∧ oi.dst = some d ∧ ∀ (c : Nat) (S : AS), (cls i = 0 → c = 0) → (b = true → ∃ n, c = n + 2 ∧ n < S.st.length ∧ ∀ t ∈ D, ∃ o off p, S.s t = .ptr o off p ∧ n ≠ o) → Free md ops bs cls c i oi listed S := by
  unfold freeS at h
  cases hi : ops[i]? with
  | none => simp [hi] at h
  | some oi =>
    simp only [hi, Bool.and_eq_true, Option.isSome_iff_exists] at h
    obtain ⟨⟨d, hd⟩, h⟩ := h
    refine ⟨oi, d, rfl, hd, fun c S hc hD j oj hj hne hun hno => ?_⟩
    simp only [List.all_eq_true, List.mem_range] at h
    have h1 := h j (Array.getElem?_eq_some_iff.1 hj).1
    simp only [hj, Bool.or_eq_true, beq_iff_eq, hne, false_or, hun, Bool.false_eq_true, Bool.and_eq_true] at h1
    rcases h1 with h1 | ⟨h1, h2⟩
    · obtain ⟨e, he, hb⟩ := Array.any_eq_true'.1 h1
      simp only [Bool.and_eq_true, beq_iff_eq] at hb
      exact absurd hb.2 (hno e he hb.1)
    · refine ⟨h1, fun hl => ?_⟩
      rcases h2 with h2 | ⟨h2, h3⟩
      · exact absurd (by simpa using h2) hl
      · have hg : ∀ t ∈ gives oj, t ∉ oi.looksAt ops := fun t ht => by simpa using List.all_eq_true.1 h2 t ht
        rcases h3 with ((h3 | h3) | h3) | ⟨hb, h3⟩
        · have := hc (by simpa using h3)
          exact ⟨⟨hg, .inl this⟩, .inl (.inl this)⟩
        · exact ⟨⟨hg, .inr (.inl h3)⟩, .inl (.inr (.inl h3))⟩
        · obtain ⟨n, g1, g2, _⟩ := hD h3.1
          exact ⟨⟨hg, .inr (.inr (.inr ⟨h3.2, n, g1, g2⟩))⟩, .inl (.inr (.inr h3.2))⟩
        · split at h3
          · rename_i t ht
            simp only [Bool.and_eq_true] at h3
            obtain ⟨h4, h5⟩ := h3
            obtain ⟨n, g1, _, hD⟩ := hD hb
            obtain ⟨o, off, p, g2, g3⟩ := hD t (by simpa using h4)
            refine ⟨⟨hg, .inr (.inr (.inl ⟨t, n, o, off, p, ht, g1, g2, g3⟩))⟩, .inr fun t' ht' k ok hk hki hkj hkun => ?_⟩
            rw [ht] at ht'; injection ht' with e; subst e
            simp only [List.all_eq_true, List.mem_range] at h5
            have h6 := h5 k (Array.getElem?_eq_some_iff.1 hk).1
            simp only [hk, Bool.or_eq_true, beq_iff_eq, hki, hkj, false_or, hkun, Bool.false_eq_true, Bool.and_eq_true] at h6
            exact ⟨by simpa using h6.1, by simpa using h6.2⟩
          · cases h3

theorem anyA_done {md : Region.Mode} {ops : Array Oper} {bs : List Nat} {cls : Nat → Nat} {K : AS → Prop} {listed : Array Bool} (hr : Region.ready md ops listed = []) (h : K S) :
    ∀ fuel, anyA P md ops bs cls K fuel listed S
  | 0 => ⟨hr, h⟩
  | _ + 1 => ⟨fun _ => h, by rw [hr]; simp⟩

theorem anyA_single {md : Region.Mode} {ops : Array Oper} {bs : List Nat} {cls : Nat → Nat} {K : AS → Prop} {listed : Array Bool} {i fuel : Nat} (hr : Region.ready md ops listed = [i])
    (h : stepA P ops bs cls i (anyA P md ops bs cls K fuel (listed.setIfInBounds i true)) S) : anyA P md ops bs cls K (fuel + 1) listed S := by
  refine ⟨fun h0 => (by rw [hr] at h0; cases h0), fun j hj => ?_⟩
  rw [hr] at hj
  simp only [List.mem_singleton] at hj
  subst hj
  exact h

/-- the class of an operation: from two lists of indices -/
def clsOf (rd hv : List Nat) (i : Nat) : Nat := if hv.contains i then 2 else if rd.contains i then 1 else 0

/-! ### the evaluation of a straight plan, step by step -/
/-- one operation of its class -/
def clsStep (P : Program) (bs : List Nat) (c : Nat) (o : Oper) (K : AS → Prop) (S : AS) : Prop :=
  match c with
  | 0 =>
    match o.op with
    | .call cl => match cl.callee with
      | .value x => match S.ev x with
        | .fn f caps => match o.dst with
          | some d => d < S.n ∧ isOwn P f = true ∧ V.aheads 0 ((cl.args.toList.map fun x => (S.ev x).view) ++ caps) = true ∧
              ∃ v, (FnA P f ((cl.args.toList.map fun x => (S.ev x).view) ++ caps) [] fun v' st' => v' = v ∧ st' = []) ∧ K (S.put d v)
          | none => False
        | _ => False
      | _ => match o.dst with | some d => d < S.n ∧ optK (lightV P S o) fun v => K (S.put d v) | none => False
    | _ => match o.dst with | some d => d < S.n ∧ optK (lightV P S o) fun v => K (S.put d v) | none => False
  | 1 =>
    match o.op, o.dst with
    | .load t x, some d => d < S.n ∧ optK (evLoad P t S (S.ev x)) fun v => K (S.put d v)
    | .lookup t x y ok, some d => d < S.n ∧ optK (evLookup P t S (S.ev x) (S.ev y) ok) fun v => K (S.put d v)
    | .call cl, some d => match cl.callee with
      | .value x => match S.ev x with
        | .fn f caps => d < S.n ∧ isOwn P f = true ∧ ∃ v, (FnA P f ((cl.args.toList.map fun x => (S.ev x).view) ++ caps) S.st fun v' st' => v' = v ∧ st' = S.st) ∧ K (S.put d v)
        | _ => False
      | _ => False
    | _, _ => False
  | _ => heavyA P bs o K S

def evLin (P : Program) (all : List Oper) (bs : List Nat) : List (Nat × Oper) → AS → (AS → Prop) → Prop
  | [], S, K => K S
  | (c, o) :: l, S, K =>
    match wantA all S o with
    | none => False
    | some false => (match o.dst with | some d => d < S.n | none => c = 2) ∧ evLin P all bs l (S.skip o.dst) K
    | some true => clsStep P bs c o (fun S => evLin P all bs l S K) S

theorem clsStep_stepA {ops : Array Oper} {bs : List Nat} {cls : Nat → Nat} {i : Nat} {o : Oper} {K : AS → Prop} (hi : ops[i]? = some o) (hw : wantA ops.toList S o = some true) (h : clsStep P bs (cls i) o K S) : stepA P ops bs cls i K S := by
  have lv : ∀ {d}, o.dst = some d → cls i = 0 → d < S.n ∧ (optK (lightV P S o) fun v => K (S.put d v)) → stepA P ops bs cls i K S := fun {d} hd hc ⟨hn, h⟩ => by
    unfold optK at h
    split at h
    · rename_i v hv
      exact stepA_light hi (by omega) hd (.light hd hn hw hv) h
    · exact h.elim
  unfold clsStep at h
  split at h
  · rename_i hc
    split at h
    · rename_i cl ho
      split at h
      · rename_i x hcal
        split at h
        · rename_i f caps hx
          split at h
          · rename_i d hd
            obtain ⟨hn, hown, ha, v, hf, hk⟩ := h
            exact stepA_light hi (by omega) hd (by rw [hc]; exact .call ho hcal hx hown hd hn hw ha hf) hk
          · exact h.elim
        · exact h.elim
      · split at h
        · rename_i d hd; exact lv hd hc h
        · exact h.elim
    · split at h
      · rename_i d hd; exact lv hd hc h
      · exact h.elim
  · rename_i hc
    split at h
    · rename_i t x d ho hd
      obtain ⟨hn, h⟩ := h
      unfold optK at h
      split at h
      · rename_i v hv
        exact stepA_light hi (by omega) hd (by rw [hc]; exact .load ho hd hn hw hv) h
      · exact h.elim
    · rename_i t x y ok d ho hd
      obtain ⟨hn, h⟩ := h
      unfold optK at h
      split at h
      · rename_i v hv
        exact stepA_light hi (by omega) hd (by rw [hc]; exact .lookup ho hd hn hw hv) h
      · exact h.elim
    · rename_i cl d ho hd
      split at h
      · rename_i x hcal
        split at h
        · rename_i f caps hx
          obtain ⟨hn, hown, v, hf, hk⟩ := h
          exact stepA_light hi (by omega) hd (by rw [hc]; exact .call1 ho hcal hx hown hd hn hw hf) hk
        · exact h.elim
      · exact h.elim
    · exact h.elim
  · rename_i h0 h1
    have hc : ¬ cls i < 2 := by
      have g0 : cls i ≠ 0 := h0
      have g1 : cls i ≠ 1 := h1
      omega
    unfold stepA
    simp only [hi, if_neg hc, hw]
    exact h

theorem skip_stepA {ops : Array Oper} {bs : List Nat} {cls : Nat → Nat} {i : Nat} {o : Oper} {K : AS → Prop} (hi : ops[i]? = some o) (hw : wantA ops.toList S o = some false)
    (h : (match o.dst with | some d => d < S.n | none => cls i = 2) ∧ K (S.skip o.dst)) : stepA P ops bs cls i K S := by
  obtain ⟨h1, h2⟩ := h
  by_cases hc : cls i < 2
  · cases hd : o.dst with
    | none => rw [hd] at h1; simp only at h1; omega
    | some d =>
      rw [hd] at h1 h2
      exact stepA_light hi hc hd (.skip h1 hw) h2
  · unfold stepA
    simp only [hi, if_neg hc, hw]
    refine ⟨?_, h2⟩
    cases hd : o.dst with
    | none => trivial
    | some d => rw [hd] at h1; exact h1

end
end Go.AL
