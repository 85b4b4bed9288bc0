import Derived.Test.YtddncbgdoplgiaaGreatAlZa
namespace Go.AL
open Go.RowKit

section
variable {P : Program} {C : Ctx} {S S' : AS} {a : Act} {w w' : World} {G : Gh} {F : FEv}

def SoundF (P : Program) (F : FEv) : Prop := ∀ f args st r, F f args st = some r → FnA P f args st fun v st' => v = r.1 ∧ st' = r.2

theorem bound_of {o : Oper} (h : dstB o.dst S.n = true) : match o.dst with | some d => d < S.n | none => True := by
  cases hd : o.dst with
  | none => trivial
  | some d => rw [hd] at h; simpa [dstB] using h

theorem evalHeavy_heavyA (hF : SoundF P F) {bs : List Nat} {o : Oper} (h : evalHeavy P F bs o S = some S') : heavyA P bs o (· = S') S := by
  have ev : evOp P bs.contains S o = some S' → optK (evOp P bs.contains S o) (· = S') := fun h => by rw [h]; rfl
  unfold evalHeavy at h
  unfold heavyA
  split
  · rename_i c hc
    simp only [hc] at h
    split
    · rename_i x hx
      simp only [hx] at h
      split
      · rename_i f caps hf
        simp only [hf] at h
        split at h
        · rename_i hb
          split at h
          · rename_i hown
            simp only [Option.map_eq_some_iff] at h
            obtain ⟨r, hr, rfl⟩ := h
            exact ⟨bound_of hb, .inl ⟨hown, _, hF f _ _ r hr, fun v st' ⟨h1, h2⟩ => by rw [h1, h2]⟩⟩
          · simp only [Option.map_eq_some_iff] at h
            obtain ⟨v, hv, rfl⟩ := h
            exact ⟨bound_of hb, .inr ⟨v, hv, rfl⟩⟩
        · cases h
      · rename_i hf; split at h
        · rename_i f caps hf'; exact (hf f caps hf').elim
        · cases h
    · rename_i hx; split at h
      · rename_i x hx'; exact (hx x hx').elim
      · exact ev h
  · rename_i hc; split at h
    · rename_i c hc'; exact (hc c hc').elim
    · exact ev h

theorem putD_optK {dst : Option Nat} {v : Option V} (h : putD S dst v = some S') : ∃ d, dst = some d ∧ d < S.n ∧ optK v fun v => S.put d v = S' := by
  obtain ⟨d, u, h1, h2, h3, h4⟩ := putD_some h
  exact ⟨d, h1, h2, by rw [h3]; exact h4.symm⟩

theorem evalCls_clsStep (hF : SoundF P F) {bs : List Nat} {c : Nat} {o : Oper} (h : evalCls P F bs c o S = some S') : clsStep P bs c o (· = S') S := by
  have lv : putD S o.dst (lightV P S o) = some S' → match o.dst with | some d => d < S.n ∧ optK (lightV P S o) fun v => S.put d v = S' | none => False := fun h => by
    obtain ⟨d, h1, h2, h3⟩ := putD_optK h
    rw [h1]; exact ⟨h2, h3⟩
  unfold evalCls at h
  unfold clsStep
  split at h
  · simp only
    split at h
    · rename_i cl ho
      split at h
      · rename_i x hcal
        split at h
        · rename_i f caps hx
          split at h
          · rename_i d hd
            split at h
            · rename_i hc
              simp only [Option.bind_eq_some_iff] at h
              obtain ⟨r, hr, h⟩ := h
              split at h
              · rename_i hr2
                injection h with h
                have : r.2 = [] := by simpa using hr2
                simp only [ho, hcal, hx, hd]
                exact ⟨hc.1, hc.2.1, hc.2.2, r.1, by have := hF f _ _ r hr; rw [‹r.2 = []›] at this; exact this, h⟩
              · cases h
            · cases h
          · cases h
        · cases h
      · rename_i hcal
        cases hcc : cl.callee with
        | value x => exact (hcal x hcc).elim
        | builtin b => simp only [ho, hcc]; exact lv h
        | invoke r m => simp only [ho, hcc]; exact lv h
    · rename_i ho
      split
      · rename_i cl hcl; exact (ho cl hcl).elim
      · exact lv h
  · simp only
    split at h
    · rename_i t x ho
      obtain ⟨d, h1, h2, h3⟩ := putD_optK h
      simp only [ho, h1]; exact ⟨h2, h3⟩
    · rename_i t x y ok ho
      obtain ⟨d, h1, h2, h3⟩ := putD_optK h
      simp only [ho, h1]; exact ⟨h2, h3⟩
    · rename_i cl ho
      split at h
      · rename_i x hcal
        split at h
        · rename_i f caps hx
          split at h
          · rename_i d hd
            split at h
            · rename_i hc
              simp only [Option.bind_eq_some_iff] at h
              obtain ⟨r, hr, h⟩ := h
              split at h
              · rename_i hr2
                injection h with h
                have hr2 := Ob.eqsB_eq _ _ hr2
                simp only [ho, hcal, hx, hd]
                exact ⟨hc.1, hc.2, r.1, by have := hF f _ _ r hr; rw [hr2] at this; exact this, h⟩
              · cases h
            · cases h
          · cases h
        · cases h
      · cases h
    · cases h
  · rename_i h0 h1
    split
    · exact (h0 rfl).elim
    · exact (h1 rfl).elim
    · exact evalHeavy_heavyA hF h

theorem evalStep_stepA (hF : SoundF P F) {ops : Array Oper} {bs : List Nat} {cls : Nat → Nat} {i : Nat} {o : Oper} (hi : ops[i]? = some o) (h : evalStep P F ops.toList bs (cls i) o S = some S') : stepA P ops bs cls i (· = S') S := by
  unfold evalStep at h
  split at h
  · cases h
  · rename_i hw
    split at h
    · rename_i hb
      injection h with h
      refine skip_stepA hi hw ⟨?_, h⟩
      cases hd : o.dst with
      | none => rw [hd] at hb; simpa [dstC] using hb
      | some d => rw [hd] at hb; simpa [dstC] using hb
    · cases h
  · rename_i hw
    exact clsStep_stepA hi hw (evalCls_clsStep hF h)

theorem evalAny_sound (hF : SoundF P F) {ops : Array Oper} {bs : List Nat} {cls : Nat → Nat} : ∀ (n : Nat) (listed : Array Bool) (S : AS), evalAny P F ops bs cls n listed S = some S' → anyA P .any ops bs cls (· = S') n listed S
  | 0, listed, S, h => by
    unfold evalAny at h
    split at h
    · rename_i hr
      injection h with h
      exact ⟨by simpa using hr, h⟩
    · cases h
  | n + 1, listed, S, h => by
    unfold evalAny at h
    split at h
    · rename_i hr
      injection h with h
      exact anyA_done (K := (· = S')) hr h _
    · rename_i r rs hr
      split at h
      · rename_i i hfind
        have h1 := List.find?_some hfind
        have h2 := List.mem_of_find?_eq_some hfind
        simp only [Bool.and_eq_true, decide_eq_true_eq] at h1
        obtain ⟨hl, h1⟩ := h1
        unfold freeD at h1
        cases hi : ops[i]? with
        | none => simp only [hi] at h; cases h
        | some oi =>
        simp only [hi] at h h1
        simp only [Option.bind_eq_some_iff] at h
        obtain ⟨S1, hs, h⟩ := h
        have hst := evalStep_stepA hF hi hs
        unfold stepA at hst
        simp only [hi, if_pos hl] at hst
        obtain ⟨d, v, hd, hy, hk⟩ := hst
        split at h1
        · rename_i hcnd
          obtain ⟨hw, hc2, hlen⟩ := hcnd
          obtain ⟨oi', d', hi', hd', hf⟩ := freeS_spec h1
          rw [hi] at hi'; injection hi' with e; subst e
          rw [hd] at hd'; injection hd' with e; subst e
          -- a load from an object
          have hld : ∃ t x oo off p, cls i = 1 ∧ oi.op = .load t x ∧ S.ev x = .ptr oo off p ∧ fpOf (cls i) oi S = oo + 2 := by
            unfold fpOf at hc2 ⊢
            split at hc2
            · rename_i h1c
              split at hc2
              · rename_i t x ho
                split at hc2
                · rename_i oo off p hx
                  exact ⟨t, x, oo, off, p, h1c, ho, hx, by simp [h1c, ho, hx]⟩
                · omega
              · omega
            · omega
          obtain ⟨t, x, oo, off, p, h1c, ho, hx, hfp⟩ := hld
          rw [hfp] at hlen hf h1
          have hcl := evalCls_clsStep (S' := S1) hF (bs := bs) (c := cls i) (o := oi) (by unfold evalStep at hs; simpa only [hw] using hs)
          rw [h1c] at hcl
          simp only [clsStep, ho, hd] at hcl
          obtain ⟨hn, hcl⟩ := hcl
          unfold optK at hcl
          split at hcl
          · rename_i v' hv'
            refine anyA_first hi hl (c := oo + 2) (fun h0 => by omega) hd n listed S (hf (oo + 2) S (fun h0 => by omega) fun _ => ⟨oo, rfl, by simpa using hlen, fun t' ht' => ?_⟩) (by rw [hr]; exact h2) (.loadO ho hx hd hn hw hv') ?_
            · unfold apartD at ht'
              simp only [List.mem_filterMap] at ht'
              obtain ⟨oj, _, ht'⟩ := ht'
              split at ht'
              · split at ht'
                · rename_i n' off' p' hp
                  split at ht'
                  · rename_i hc
                    injection ht' with ht'; subst ht'
                    exact ⟨n', off', p', hp, by omega⟩
                  · cases ht'
                · cases ht'
              · cases ht'
            · rw [hcl]; exact evalAny_sound hF n _ _ h
          · exact hcl.elim
        · obtain ⟨oi', d', hi', hd', hf⟩ := freeS_spec h1
          rw [hi] at hi'; injection hi' with e; subst e
          rw [hd] at hd'; injection hd' with e; subst e
          refine anyA_first hi hl (fun h => h) hd n listed S (hf (cls i) S (fun h => h) (fun h => by cases h)) (by rw [hr]; exact h2) hy ?_
          rw [hk]
          exact evalAny_sound hF n _ _ h
      · split at h
        · rename_i hc1
          simp only [List.isEmpty_iff] at hc1
          subst hc1
          split at h
          · rename_i o ho
            simp only [Option.bind_eq_some_iff] at h
            obtain ⟨S1, hs, h⟩ := h
            have hst := evalStep_stepA hF ho hs
            refine ⟨fun h0 => (by rw [hr] at h0; cases h0), fun j hj => ?_⟩
            rw [hr] at hj
            simp only [List.mem_singleton] at hj
            subst hj
            exact stepA_mono (K := (· = S1)) (fun S2 e => by subst e; exact evalAny_sound hF n _ _ h) hst
          · cases h
        · cases h

theorem evalOps_sound (hF : SoundF P F) {ops : Array Oper} {bs : List Nat} : ∀ (l : List Oper) (S : AS), evalOps P F ops.toList bs l S = some S' → RW P C ops l S (· = S')
  | [], S, h => by unfold evalOps at h; injection h with h; exact RW_nil h
  | o :: l, S, h => by
    simp only [evalOps, Option.bind_eq_some_iff] at h
    obtain ⟨S1, hs, h⟩ := h
    have ih := evalOps_sound hF l S1 h
    unfold evalStep at hs
    split at hs
    · cases hs
    · rename_i hw
      split at hs
      · rename_i hb
        injection hs with hs
        subst hs
        exact RW_skip hw (fun d hd => by rw [hd] at hb; simpa [dstC] using hb) ih
      · cases hs
    · rename_i hw
      exact RW_op hw (heavyA_sound (evalHeavy_heavyA hF hs)) fun S2 e => e ▸ ih

theorem evalTry_sound (hF : SoundF P F) {ops : Array Oper} : ∀ l, evalTry P F ops S l = some S' → ∃ cls, anyA P .any ops (bases ops.toList) cls (· = S') ops.size (Array.replicate ops.size false) S
  | [], h => by unfold evalTry at h; cases h
  | (x, y) :: l, h => by
    unfold evalTry at h
    split at h
    · rename_i S1 h1
      injection h with h; subst h
      exact ⟨_, evalAny_sound hF _ _ S h1⟩
    · exact evalTry_sound hF l h

theorem evalRegion_sound (hF : SoundF P F) {id : Nat} {ops : Array Oper} {draw : Bool} (hm : draw = true → P.follows .mixedOrders = true) (h : evalRegion P F ops draw S = some S') : W P C (.region id ops draw) S fun e S'' => e = .normal ∧ S'' = S' := by
  unfold evalRegion at h
  split at h
  · rename_i hd
    subst hd
    obtain ⟨cls, hc⟩ := evalTry_sound hF _ h
    exact fun a w G hR => wp_region_any (hm rfl) (anyA_sound (K := (· = S')) (fun S1 _ _ G' hk hR' => ⟨S1, G', ⟨rfl, hk⟩, hR'⟩) _ _ S a _ G hR.drew hc)
  · rename_i hd
    have hd : draw = false := by simpa using hd
    subst hd
    refine W_region ?_
    intro a w G Q hR hq
    exact evalOps_sound (C := C) hF ops.toList S h a w G Q hR fun S1 a' w' G' e hR' => hq S1 a' w' G' ⟨rfl, e⟩ hR'

theorem evalCode_sound (hF : SoundF P F) (n : Nat) : ∀ (c : Code) (S : AS) (e : Ex) (S' : AS), evalCode P F n c S = some (e, S') → W P C c S fun e' S'' => e' = e.toExit ∧ S'' = S' := by
  induction n using Nat.strongRecOn with
  | _ n ih =>
  intro c S e S' h
  cases n with
  | zero => unfold evalCode at h; cases h
  | succ n =>
    have ihn := ih n (Nat.lt_succ_self n)
    have h0 := h
    unfold evalCode at h
    split at h
    · injection h with h; injection h with h1 h2; subst h1 h2; exact W_skip ⟨rfl, rfl⟩
    · injection h with h; injection h with h1 h2; subst h1 h2; exact W_ret ⟨rfl, rfl⟩
    · injection h with h; injection h with h1 h2; subst h1 h2; exact W_label ⟨rfl, rfl⟩
    · injection h with h; injection h with h1 h2; subst h1 h2; exact W_exit ⟨rfl, rfl⟩
    · rename_i x y
      simp only [Option.bind_eq_some_iff] at h
      obtain ⟨⟨e1, S1⟩, hx, h⟩ := h
      refine W_seq ((ihn x S e1 S1 hx).mono fun e' S2 ⟨h1, h2⟩ => ?_)
      subst h1 h2
      cases e1 with
      | nor => exact ihn y _ e S' h
      | ex id => simp only at h; injection h with h; injection h with h1 h2; subst h1 h2; exact ⟨rfl, rfl⟩
      | ret => simp only at h; injection h with h; injection h with h1 h2; subst h1 h2; exact ⟨rfl, rfl⟩
    · rename_i c x y
      split at h
      · rename_i t ht
        exact W_cond ht (ihn _ S e S' h)
      · cases h
    · rename_i id c
      simp only [Option.map_eq_some_iff] at h
      obtain ⟨⟨e1, S1⟩, hx, h⟩ := h
      refine W_block ((ihn c S e1 S1 hx).mono fun e' S2 ⟨h1, h2⟩ => ?_)
      subst h1 h2
      cases e1 with
      | nor => simp only at h; injection h with h1 h2; subst h1 h2; exact ⟨rfl, rfl⟩
      | ret => simp only at h; injection h with h1 h2; subst h1 h2; exact ⟨rfl, rfl⟩
      | ex i =>
        simp only at h
        by_cases hi : i = id
        · rw [if_pos hi] at h; injection h with h1 h2; subst h1 h2
          simp only [Ex.toExit, blockE, if_pos hi]; exact ⟨trivial, trivial⟩
        · rw [if_neg hi] at h; injection h with h1 h2; subst h1 h2
          simp only [Ex.toExit, blockE, if_neg hi]; exact ⟨trivial, trivial⟩
    · rename_i c
      clear h
      refine W_loop (α := Nat) (fun k S0 => k ≤ n + 1 ∧ evalCode P F k (.loop c) S0 = some (e, S')) id (n + 1) ⟨Nat.le_refl _, h0⟩ fun k S0 hI => ?_
      obtain ⟨hk, hI⟩ := hI
      cases k with
      | zero => unfold evalCode at hI; cases hI
      | succ k =>
        unfold evalCode at hI
        simp only [Option.bind_eq_some_iff] at hI
        obtain ⟨⟨e1, S1⟩, hx, h⟩ := hI
        refine (ih k (by omega) c S0 e1 S1 hx).mono fun e' S2 ⟨h1, h2⟩ => ?_
        subst h1 h2
        cases e1 with
        | nor => exact ⟨k, ⟨by omega, h⟩, Nat.lt_succ_self k⟩
        | ex id => simp only at h; injection h with h; injection h with h1 h2; subst h1 h2; exact ⟨rfl, rfl⟩
        | ret => simp only at h; injection h with h; injection h with h1 h2; subst h1 h2; exact ⟨rfl, rfl⟩
    · rename_i id ops draw
      split at h
      · cases h
      · rename_i hd
        simp only [Option.map_eq_some_iff] at h
        obtain ⟨S1, hs, h⟩ := h
        injection h with h1 h2; subst h1 h2
        refine evalRegion_sound hF (fun hdr => ?_) hs
        subst hdr
        simpa using hd
    · cases h

theorem evalFn_sound (N : Nat) : ∀ d, SoundF P (evalFn P N d)
  | 0 => fun f args st r h => by unfold evalFn at h; cases h
  | d + 1 => fun f args st r h => by
    unfold evalFn at h
    split at h
    · cases h
    · rename_i fn hf
      split at h
      · cases h
      · rename_i c hc
        split at h
        · rename_i hn
          simp only [Option.bind_eq_some_iff] at h
          obtain ⟨⟨e, S1⟩, hx, h⟩ := h
          have hW := fun C => evalCode_sound (C := C) (evalFn_sound N d) N c _ e S1 hx
          have key : e ≠ .nor → e ≠ .ret → False := fun h1 h2 => by
            cases e with
            | nor => exact h1 rfl
            | ret => exact h2 rfl
            | ex id => simp only at h; cases h
          have h2 : ((resA P S1 fn.results.toList).bind fun v => if v.ahead st.length then some (v, S1.st.take st.length) else if v.ahead S1.st.length && decide (st.length ≤ S1.st.length) then some (v, S1.st) else none) = some r := by
            cases e with
            | nor => exact h
            | ret => exact h
            | ex id => simp only at h; cases h
          simp only [Option.bind_eq_some_iff] at h2
          obtain ⟨v, hv, h2⟩ := h2
          have fin : ∀ m, st.length ≤ m → v.ahead m = true → r = (v, S1.st.take m) → FnA P f args st fun v st' => v = r.1 ∧ st' = r.2 := fun m hm ha hr => by
            subst hr
            refine FnA.of_code fn.ntmps m hm hf hc rfl hn fun C R hR => (hW C).mono fun e' S2 ⟨h1, h2⟩ => ?_
            subst h1 h2
            have := hR S2 (by rw [hv]; exact ⟨ha, rfl, rfl⟩)
            cases e with
            | nor => exact this.2
            | ret => exact this.1
            | ex id => exact (key (by simp) (by simp)).elim
          split at h2
          · rename_i ha
            injection h2 with h2
            exact fin st.length (Nat.le_refl _) ha h2.symm
          · split at h2
            · rename_i ha
              simp only [Bool.and_eq_true, decide_eq_true_eq] at ha
              injection h2 with h2
              exact fin S1.st.length ha.2 ha.1 (by rw [List.take_length]; exact h2.symm)
            · cases h2
        · cases h

end
end Go.AL
