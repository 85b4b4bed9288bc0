import Derived.Test.YtddncbgdoplgiaaGreatAlRa
namespace Go.AL
open Go.RowKit

/-! ### Residual programs: code and functions -/
inductive Pl where
  | leaf
  | reg (rd hv : List Nat) (is : List (Nat × Option (List Nat)))
  | seq (p q : Pl)
  | join (L : List Nat) (E : List Ex) (p q : Pl)
  | cond (p q : Pl)
  | blk (p : Pl)
  | loop (L : List Nat) (E : List Ex) (tr : Bool) (p : Pl)
  deriving Inhabited

abbrev Sn := List V × List Ob

section
variable {σ : Type}
def loopN (body : σ → Option (Ex × σ)) : Nat → σ → Option (Ex × σ)
  | 0, _ => none
  | n + 1, s => (body s).bind fun r => if r.1 = .nor then loopN body n r.2 else some r
open Classical in
noncomputable def loopF (body : σ → Option (Ex × σ)) (s : σ) : Option (Ex × σ) :=
  if h : ∃ n r, loopN body n s = some r then some h.choose_spec.choose else none

theorem loopN_mono {body : σ → Option (Ex × σ)} : ∀ {n m : Nat} {s : σ} {r}, n ≤ m → loopN body n s = some r → loopN body m s = some r
  | 0, _, _, _, _, h => by simp [loopN] at h
  | n + 1, 0, _, _, hnm, _ => by omega
  | n + 1, m + 1, s, r, hnm, h => by
    simp only [loopN, Option.bind_eq_some_iff] at h ⊢
    obtain ⟨q, hq, h⟩ := h
    refine ⟨q, hq, ?_⟩
    split at h
    · rename_i he; rw [if_pos he]; exact loopN_mono (by omega) h
    · rename_i he; rw [if_neg he]; exact h

theorem loopF_of {body : σ → Option (Ex × σ)} {n : Nat} {s : σ} {r} (h : loopN body n s = some r) : loopF body s = some r := by
  have hex : ∃ n r, loopN body n s = some r := ⟨n, r, h⟩
  unfold loopF
  rw [dif_pos hex]
  have h2 := hex.choose_spec.choose_spec
  have h3 := loopN_mono (Nat.le_max_left n hex.choose) h
  have h4 := loopN_mono (Nat.le_max_right n hex.choose) h2
  rw [h3] at h4
  exact h4.symm ▸ rfl

theorem loopF_some {body : σ → Option (Ex × σ)} {s : σ} {r} (h : loopF body s = some r) : ∃ n, loopN body n s = some r := by
  unfold loopF at h
  split at h
  · rename_i hex
    have h2 := hex.choose_spec.choose_spec
    injection h with h
    exact ⟨_, h ▸ h2⟩
  · cases h

/-- one round more -/
theorem loopF_nor {body : σ → Option (Ex × σ)} {s s' : σ} {r} (h : body s = some (.nor, s')) (h2 : loopF body s' = some r) : loopF body s = some r := by
  obtain ⟨n, hn⟩ := loopF_some h2
  exact loopF_of (n := n + 1) (by simp [loopN, h, hn])
theorem loopF_out {body : σ → Option (Ex × σ)} {s s' : σ} {e : Ex} (he : e ≠ .nor) (h : body s = some (e, s')) : loopF body s = some (e, s') :=
  loopF_of (n := 1) (by simp [loopN, h, he])
end

section
variable {R : Type}
def slotIx : List Nat → Nat → Option Nat
  | [], _ => none
  | l :: ls, j => if j = l then some 0 else (slotIx ls j).map (· + 1)
abbrev mkS (L : List Nat) (vs : List V) (j : Nat) : V := match slotIx L j with | some i => vs.getD i .dead | none => .dead
abbrev mkA (n : Nat) (L : List Nat) (q : Sn) : AS := ⟨n, mkS L q.1, q.2⟩

abbrev selK (e : Ex) (k : Ex → Option R) : List Ex → Option R
  | [] => none
  | x :: xs => if e = x then k x else selK e k xs

def aheadAll (m : Nat) (vs : List V) : Bool := vs.all fun v => v.ahead m
def truncK (m : Nat) (e : Ex) (vs : List V) (st : List Ob) : Option (Ex × Sn) := if aheadAll m vs = true then some (e, vs, st.take m) else some (e, vs, st)

noncomputable abbrev evC (P : Program) (F D : FEv) : Code → Pl → (R : Type) → AS → (Ex → AS → Option R) → Option R
  | .skip, _, _, S, k => k .nor S
  | .ret, _, _, S, k => k .ret S
  | .label _, _, _, S, k => k .nor S
  | .exit id, _, _, S, k => k (.ex id) S
  | .region _ ops draw, pl, _, S, k =>
    match pl with
    | .reg rd hv is =>
      if draw then
        if P.follows .mixedOrders && orderB .any ops (bases ops.toList) (clsOf rd hv) is (Array.replicate ops.size false) && is.all (fun i => decide (i.1 < ops.size)) && decide (is.length ≤ ops.size) then
          regD P F D ops.toList (bases ops.toList) (guardSlots ops.toList) (is.filterMap fun i => (ops[i.1]?).map fun o => (clsOf rd hv i.1, i.2, o)) S (k .nor)
        else none
      else regK P F D ops.toList (bases ops.toList) (guardSlots ops.toList) (ops.toList.map fun o => (2, o)) S (k .nor)
    | _ => none
  | .seq x y, pl, R, S, k =>
    match pl with
    | .seq p q => evC P F D x p R S fun e S' => match e with | .nor => evC P F D y q R S' k | e => k e S'
    | .join L E p q =>
      (evC P F D x p (Ex × Sn) S fun e S' => if S'.n = S.n then some (e, (L.map S'.s, S'.st)) else none).bind fun r =>
        if r.1 = .nor then evC P F D y q R (mkA S.n L r.2) k else selK r.1 (fun e => k e (mkA S.n L r.2)) E
    | _ => none
  | .cond c x y, pl, R, S, k =>
    match pl with
    | .cond p q => condK (S.ev c) (evC P F D x p R S k) (evC P F D y q R S k)
    | _ => none
  | .block id x, pl, R, S, k =>
    match pl with
    | .blk p => evC P F D x p R S fun e S' => match e with | .ex i => if i = id then k .nor S' else k (.ex i) S' | e => k e S'
    | _ => none
  | .loop x, pl, R, S, k =>
    match pl with
    | .loop L E tr p =>
      (loopF (fun q : Sn => evC P F D x p (Ex × Sn) (mkA S.n L q) fun e S' => if S'.n = S.n then (if tr then truncK q.2.length e (L.map S'.s) S'.st else some (e, (L.map S'.s, S'.st))) else none) (L.map S.s, S.st)).bind fun r =>
        selK r.1 (fun e => k e (mkA S.n L r.2)) E
    | _ => none
  | _, _, _, _, _ => none

def cellV (P : Program) (ty : TypeId) (st : List Ob) (v : V) : Option V := match v with | .ptr o off p => loadV P ty st (.ptr o off p) | _ => none
abbrev resK (P : Program) (S : AS) : List ResultVar → (List V → Option R) → Option R
  | [], k => k []
  | .tmp t :: rs, k => resK P S rs fun vs => k (S.s t :: vs)
  | .cell t ty :: rs, k => (cellV P ty S.st (S.s t)).bind fun v => resK P S rs fun vs => k (v :: vs)

def tupK (vs : List V) : Option V := if vs.all V.plain = true then some (.tup vs) else none
def finK (m : Nat) (v : V) (st : List Ob) : Option (V × List Ob) := if v.ahead m = true then some (v, st.take m) else if v.ahead st.length = true ∧ m ≤ st.length then some (v, st) else none

abbrev endK (P : Program) (S : AS) (m : Nat) : List ResultVar → Option (V × List Ob)
  | [r] => resK P S [r] fun vs => match vs with | [v] => finK m v S.st | _ => none
  | rs => if (resTmps rs).Nodup then resK P S rs fun vs => (tupK vs).bind fun v => finK m v S.st else none

noncomputable abbrev evFn (P : Program) (F D : FEv) (pl : Pl) (n : Nat) (c : Code) (rs : List ResultVar) (args : List V) (st : List Ob) : Option (V × List Ob) :=
  evC P F D c pl _ ⟨n, enterAt n 0 args fun _ => .tup [], st⟩ fun e S' => match e with
    | .ex _ => none
    | _ => endK P S' st.length rs
end

/-! soundness -/
section
variable {P : Program} {C : Ctx} {S S' : AS} {a : Act} {w : World} {G : Gh} {F D : FEv}

/-- a state forgets -/
theorem Rel.forget (h : Rel C S a w G) {s' : Nat → V} (hs : ∀ j, s' j = S.s j ∨ s' j = .dead) : ∃ G', Rel C { S with s := s' } a w G' := by
  refine ⟨{ G with R := fun j => match s' j with | .dead => [] | _ => G.R j }, { h with slots := fun j => ?_, slotsOw := fun j b hb => ?_, slotsNd := fun j => ?_ }⟩
  · simp only
    rcases hs j with e | e
    · have := h.slots j
      rw [← e] at this
      split
      · rename_i hd
        rw [hd]; rfl
      · exact this
    · rw [e]; rfl
  · simp only at hb
    split at hb
    · cases hb
    · exact h.slotsOw j b hb
  · simp only
    split
    · simp
    · exact h.slotsNd j

def Fgt (C : Ctx) (S S' : AS) : Prop := ∀ a w G, Rel C S a w G → ∃ G', Rel C S' a w G'

theorem Fgt.refl (C : Ctx) (S : AS) : Fgt C S S := fun _ _ G h => ⟨G, h⟩
theorem Fgt.trans {C : Ctx} {S1 S2 S3 : AS} (h : Fgt C S1 S2) (h' : Fgt C S2 S3) : Fgt C S1 S3 := fun a w G hR => let ⟨G', h1⟩ := h a w G hR; h' a w G' h1

theorem Fgt.mkA {L : List Nat} : Fgt C S (mkA S.n L (L.map S.s, S.st)) := fun a w G hR => by
  refine hR.forget fun j => ?_
  unfold mkS
  have key : ∀ (L : List Nat) (i : Nat), slotIx L j = some i → (L.map S.s).getD i .dead = S.s j := by
    intro L
    induction L with
    | nil => intro i h; simp [slotIx] at h
    | cons l ls ih =>
      intro i h
      simp only [slotIx] at h
      split at h
      · rename_i e; injection h with h; subst h; simp [e]
      · simp only [Option.map_eq_some_iff] at h
        obtain ⟨i', hi', rfl⟩ := h
        simpa using ih i' hi'
  split
  · rename_i i hi; exact .inl (key L i hi)
  · exact .inr rfl

theorem W_fgt_pre {c : Code} {Q : Exit → AS → Prop} (hf : Fgt C S S') (h : W P C c S' Q) : W P C c S Q := fun a w G hR =>
  let ⟨G', hR'⟩ := hf a w G hR; h a w G' hR'
theorem W_fgt_post {c : Code} {Q : Exit → AS → Prop} (h : W P C c S fun e S1 => ∃ S2, Fgt C S1 S2 ∧ Q e S2) : W P C c S Q := fun a w G hR =>
  Code.wp_mono (fun _ _ _ ⟨S1, G1, ⟨S2, hf, hq⟩, hR1⟩ => let ⟨G2, hR2⟩ := hf _ _ _ hR1; ⟨S2, G2, hq, hR2⟩) (h a w G hR)

/-- what a continuation says of a state -/
def Post {R : Type} (C : Ctx) (k : Ex → AS → Option R) (r : R) : Exit → AS → Prop := fun e S1 => ∃ ex S2, e = ex.toExit ∧ Fgt C S1 S2 ∧ k ex S2 = some r

theorem selK_some {R : Type} {e : Ex} {k : Ex → Option R} {r : R} : ∀ {E : List Ex}, selK e k E = some r → k e = some r
  | [], h => by cases h
  | x :: xs, h => by
    unfold selK at h
    split at h
    · rename_i he; rw [he]; exact h
    · exact selK_some h

theorem evLin_RW {ops : Array Oper} {bs : List Nat} {K : AS → Prop} (hb : bs = bases ops.toList) : ∀ (l : List Oper) (S : AS), evLin P ops.toList bs (l.map fun o => (2, o)) S K → RW P C ops l S K
  | [], S, h => RW_nil h
  | o :: l, S, h => by
    simp only [List.map_cons, evLin] at h
    split at h
    · exact h.elim
    · rename_i hw
      refine RW_skip hw (fun d hd => ?_) (evLin_RW hb l _ h.2)
      have := h.1
      rw [hd] at this; exact this
    · rename_i hw
      exact RW_op hw (heavyA_sound (K := fun S => evLin P ops.toList bs (l.map fun o => (2, o)) S K) h) fun S2 h2 => evLin_RW hb l S2 h2

theorem region_sound (hF : SoundF P F) (hD : SoundF P D) {R : Type} {id : Nat} {ops : Array Oper} {draw : Bool} {pl : Pl} {k : Ex → AS → Option R} {r : R}
    (h : evC P F D (.region id ops draw) pl R S k = some r) : W P C (.region id ops draw) S (Post C k r) := by
  unfold evC at h
  split at h
  · rename_i rd hv is
    split at h
    · rename_i hdr
      subst hdr
      split at h
      · rename_i hc
        simp only [Bool.and_eq_true] at hc
        have h1 := regD_sound hF hD (bs := bases ops.toList) (gs := guardSlots ops.toList) (k := k .nor) (r := r) is (Array.replicate ops.size false) S ops.size (by simpa using hc.2) hc.1.1.2
          (fun p hp => by simpa using List.all_eq_true.1 hc.1.2 p hp) h
        exact fun a w G hR => wp_region_any hc.1.1.1 (anyA_sound (fun S1 _ _ G' hk hR' => ⟨S1, G', ⟨.nor, S1, rfl, Fgt.refl _ _, hk⟩, hR'⟩) _ _ S a _ G hR.drew h1)
      · cases h
    · rename_i hdr
      have hdr : draw = false := by simpa using hdr
      subst hdr
      have h1 := regK_sound hF hD _ _ _ h
      have h2 := evLin_RW (C := C) rfl _ _ h1
      exact W_region fun a w G Q hR hq => h2 a w G Q hR fun S1 a' w' G' hk hR' => hq S1 a' w' G' ⟨.nor, S1, rfl, Fgt.refl _ _, hk⟩ hR'
  · cases h

theorem W_post {R : Type} {c : Code} {k : Ex → AS → Option R} {r : R} {Q : Exit → AS → Prop} (h : W P C c S (Post C k r)) (hk : ∀ ex S2, k ex S2 = some r → ∃ S3, Fgt C S2 S3 ∧ Q ex.toExit S3) : W P C c S Q := by
  refine W_fgt_post (h.mono fun e S1 ⟨ex, S2, he, hf, h2⟩ => ?_)
  obtain ⟨S3, hf3, hq⟩ := hk ex S2 h2
  exact ⟨S3, hf.trans hf3, he ▸ hq⟩

/-- a state whose judgement gives the rest -/
theorem Fgt_W {c : Code} {R : Type} {k : Ex → AS → Option R} {r : R} {S S2 : AS} (hf : Fgt C S S2) (h : W P C c S2 (Post C k r)) : W P C c S (Post C k r) := W_fgt_pre hf h

theorem toExit_inj {a b : Ex} (h : a.toExit = b.toExit) : a = b := by
  cases a <;> cases b <;> simp [Ex.toExit] at h ⊢ <;> exact h

theorem evC_sound (hF : SoundF P F) (hD : SoundF P D) : ∀ (c : Code) (pl : Pl) (R : Type) (S : AS) (k : Ex → AS → Option R) (r : R), evC P F D c pl R S k = some r → W P C c S (Post C k r)
  | .skip, pl, R, S, k, r, h => W_skip ⟨.nor, S, rfl, Fgt.refl _ _, h⟩
  | .ret, pl, R, S, k, r, h => W_ret ⟨.ret, S, rfl, Fgt.refl _ _, h⟩
  | .label l, pl, R, S, k, r, h => W_label ⟨.nor, S, rfl, Fgt.refl _ _, h⟩
  | .exit id, pl, R, S, k, r, h => W_exit ⟨.ex id, S, rfl, Fgt.refl _ _, h⟩
  | .region id ops draw, pl, R, S, k, r, h => region_sound hF hD h
  | .seq x y, pl, R, S, k, r, h => by
    unfold evC at h
    split at h
    · rename_i p q
      have h1 := evC_sound hF hD x p R S _ r h
      refine W_seq (h1.mono fun e S1 ⟨ex, S2, he, hf, h2⟩ => ?_)
      cases ex with
      | nor => subst he; exact W_fgt_pre hf (evC_sound hF hD y q R S2 k r h2)
      | ex i => subst he; exact ⟨_, S2, rfl, hf, h2⟩
      | ret => subst he; exact ⟨_, S2, rfl, hf, h2⟩
    · rename_i L E p q
      simp only [Option.bind_eq_some_iff] at h
      obtain ⟨r1, hx, h⟩ := h
      have h1 := evC_sound hF hD x p _ S _ r1 hx
      refine W_seq (h1.mono fun e S1 ⟨ex, S2, he, hf, h2⟩ => ?_)
      simp only at h2
      split at h2
      · rename_i hn
        injection h2 with h2
        subst h2
        have hf2 : Fgt C S1 (mkA S.n L (L.map S2.s, S2.st)) := hn ▸ hf.trans Fgt.mkA
        simp only at h
        cases ex with
        | nor =>
          subst he
          rw [if_pos rfl] at h
          exact W_fgt_pre hf2 (evC_sound hF hD y q R _ k r h)
        | ex i => subst he; rw [if_neg (by simp)] at h; exact ⟨_, _, rfl, hf2, selK_some h⟩
        | ret => subst he; rw [if_neg (by simp)] at h; exact ⟨_, _, rfl, hf2, selK_some h⟩
      · cases h2
    · cases h
  | .cond c x y, pl, R, S, k, r, h => by
    unfold evC at h
    split at h
    · rename_i p q
      obtain ⟨t, ht, h⟩ := condK_some h
      refine W_cond ht ?_
      cases t with
      | true => exact evC_sound hF hD x p R S k r (by simpa using h)
      | false => exact evC_sound hF hD y q R S k r (by simpa using h)
    · cases h
  | .block id x, pl, R, S, k, r, h => by
    unfold evC at h
    split at h
    · rename_i p
      have h1 := evC_sound hF hD x p R S _ r h
      refine W_block (h1.mono fun e S1 ⟨ex, S2, he, hf, h2⟩ => ?_)
      cases ex with
      | nor => subst he; exact ⟨_, S2, rfl, hf, h2⟩
      | ret => subst he; exact ⟨_, S2, rfl, hf, h2⟩
      | ex i =>
        subst he
        simp only [Ex.toExit, blockE]
        simp only at h2
        split at h2
        · rename_i hi; rw [if_pos hi]; exact ⟨.nor, S2, rfl, hf, h2⟩
        · rename_i hi; rw [if_neg hi]; exact ⟨.ex i, S2, rfl, hf, h2⟩
    · cases h
  | .loop x, pl, R, S, k, r, h => by
    unfold evC at h
    split at h
    · rename_i L E tr p
      simp only [Option.bind_eq_some_iff] at h
      obtain ⟨r1, hl, h⟩ := h
      obtain ⟨n, hn⟩ := loopF_some hl
      have hk := selK_some h
      refine W_loop (α := Nat × Sn) (fun q S1 => Fgt C S1 (mkA S.n L q.2) ∧ loopN _ q.1 q.2 = some r1) (fun q => q.1) (n, (L.map S.s, S.st)) ⟨Fgt.mkA, hn⟩ ?_
      rintro ⟨m, q⟩ S1 ⟨hfg, hm⟩
      cases m with
      | zero => simp [loopN] at hm
      | succ m =>
        simp only [loopN, Option.bind_eq_some_iff] at hm
        obtain ⟨q1, hq1, hm⟩ := hm
        have h1 := evC_sound hF hD x p _ (mkA S.n L q) _ q1 hq1
        intro a w G hR
        have hlen : C.ρ0.length ≤ q.2.length := by
          obtain ⟨G0, hR0⟩ := hfg a w G hR
          have h3 := hR0.len
          have h4 := hR0.ρ0.length_le
          simp only at h3; omega
        refine W_fgt_pre hfg (h1.mono fun e S1' ⟨ex, S2, he, hf, h2⟩ => ?_) a w G hR
        have key : ∃ S3, Fgt C S2 S3 ∧ S3 = mkA S.n L q1.2 ∧ ex = q1.1 := by
          simp only at h2
          split at h2
          · rename_i hn2
            split at h2
            · unfold truncK at h2
              split at h2
              · rename_i ha
                injection h2 with h2
                subst h2
                refine ⟨_, ?_, rfl, rfl⟩
                refine (hn2 ▸ Fgt.mkA (L := L)).trans fun a w G hR => ?_
                obtain ⟨G', hR'⟩ := hR.trunc (m := q.2.length) hlen fun j => by
                  simp only [mkS]
                  split
                  · rename_i i hi
                    simp only [aheadAll, List.all_eq_true] at ha
                    rcases Nat.lt_or_ge i (L.map S2.s).length with hlt | hge
                    · simp only [List.getD, List.getElem?_eq_getElem hlt, Option.getD_some]
                      exact ha _ (List.getElem_mem hlt)
                    · simp only [List.getD, List.getElem?_eq_none hge, Option.getD_none]; rfl
                  · rfl
                exact ⟨G', hR'⟩
              · injection h2 with h2
                subst h2
                exact ⟨_, hn2 ▸ Fgt.mkA, rfl, rfl⟩
            · injection h2 with h2
              subst h2
              exact ⟨_, hn2 ▸ Fgt.mkA, rfl, rfl⟩
          · cases h2
        obtain ⟨S3, hf3, rfl, hex⟩ := key
        have hf4 := hf.trans hf3
        split at hm
        · rename_i hnor
          rw [hnor] at hex
          subst hex he
          exact ⟨(m, q1.2), ⟨hf4, hm⟩, Nat.lt_succ_self m⟩
        · rename_i hnor
          injection hm with hm
          subst hm
          subst hex
          cases hq : q1.1 with
          | nor => exact (hnor hq).elim
          | ex i => rw [hq] at he hk; subst he; exact ⟨_, _, rfl, hf4, hk⟩
          | ret => rw [hq] at he hk; subst he; exact ⟨_, _, rfl, hf4, hk⟩
    · cases h
  | .rangeFunc .., pl, R, S, k, r, h => by cases pl <;> cases h
  | .scope .., pl, R, S, k, r, h => by cases pl <;> cases h
  | .goto .., pl, R, S, k, r, h => by cases pl <;> cases h
  | .refuse .., pl, R, S, k, r, h => by cases pl <;> cases h

theorem resK_some {R : Type} : ∀ (rs : List ResultVar) (k : List V → Option R) (r : R), resK P S rs k = some r → ∃ vs, rs.mapM (resOne P S) = some vs ∧ k vs = some r
  | [], k, r, h => ⟨[], rfl, h⟩
  | .tmp t :: rs, k, r, h => by
    obtain ⟨vs, h1, h2⟩ := resK_some rs _ r h
    exact ⟨S.s t :: vs, by simp [List.mapM_cons, resOne, h1], h2⟩
  | .cell t ty :: rs, k, r, h => by
    unfold resK at h
    simp only [Option.bind_eq_some_iff] at h
    obtain ⟨v, hv, h⟩ := h
    obtain ⟨vs, h1, h2⟩ := resK_some rs _ r h
    unfold cellV at hv
    split at hv
    · rename_i o off p hp
      have hv' : evLoad P ty S (.ptr o off p) = some v := hv
      exact ⟨v :: vs, by simp [List.mapM_cons, resOne, hp, hv', h1], h2⟩
    · cases hv

/-- the end of a body: some of the objects stay -/
def endE' (P : Program) (fn : Func) (m0 : Nat) (Q : V → List Ob → Prop) : Exit → AS → Prop
  | .normal, S | .ret, S => ∃ m, m0 ≤ m ∧ optK (resA P S fn.results.toList) fun v => v.ahead m = true ∧ Q v (S.st.take m)
  | _, _ => False

theorem FnA.of_ends {f : Nat} {fn : Func} {c : Code} {args : List V} {st : List Ob} {Q : V → List Ob → Prop} (n : Nat) (hf : P.funcs[f]? = some fn) (hb : fn.body = some c) (hN : fn.ntmps = n) (hn : args.length ≤ n)
    (h : ∀ (C : Ctx) (R : Exit → AS → Prop), (∀ S m, st.length ≤ m → (optK (resA P S fn.results.toList) fun v => v.ahead m = true ∧ Q v (S.st.take m)) → R .ret S ∧ R .normal S) →
      W P C c ⟨n, enterAt n 0 args fun _ => .tup [], st⟩ R) : FnA P f args st Q := by
  subst hN
  intro C xs G hρ hK hR
  have hW := h C (endE' P fn st.length Q) fun S m hm hS => ⟨⟨m, hm, hS⟩, ⟨m, hm, hS⟩⟩
  rw [← enter_eq] at hW
  refine calls_of_wp hf hb (Code.wp_mono (fun e a' w' ⟨S', G', hq, hR'⟩ => ?_) (hW _ _ G (hR.enter hn)))
  have key : (e = .normal ∨ e = .ret) → bodyPost P fn (fun e w' => ∃ x v st' G', e = .returned x ∧ Q v st' ∧ Rel C (AS.args [v] st') { tmps := #[x], defers := [] } w' G') e a' w' := by
    intro he
    have hq' : ∃ m, st.length ≤ m ∧ optK (resA P S' fn.results.toList) fun v => v.ahead m = true ∧ Q v (S'.st.take m) := by rcases he with rfl | rfl <;> exact hq
    obtain ⟨m, hm, hq'⟩ := hq'
    have hlen : C.ρ0.length ≤ m := by rw [hρ, hR.len]; exact hm
    unfold optK at hq'
    split at hq'
    · rename_i v hv
      obtain ⟨x, G'', hrun, hR''⟩ := hR'.result (P := P) hv
      obtain ⟨G3, hR3⟩ := hR''.trunc hlen fun j => by
        cases j with
        | zero => exact hq'.1
        | succ j => rfl
      rcases he with rfl | rfl <;> exact ⟨hR'.defs, x, hrun, x, v, S'.st.take m, G3, rfl, hq'.2, hR3⟩
    · exact hq'.elim
  cases e with
  | normal => exact key (.inl rfl)
  | ret => exact key (.inr rfl)
  | _ => exact hq.elim

theorem endK_some {m : Nat} {rs : List ResultVar} {r : V × List Ob} (h : endK P S m rs = some r) : ∃ v m', resA P S rs = some v ∧ v.ahead m' = true ∧ m ≤ m' ∧ r = (v, S.st.take m') := by
  have fin : ∀ v, finK m v S.st = some r → ∃ m', v.ahead m' = true ∧ m ≤ m' ∧ r = (v, S.st.take m') := fun v h => by
    unfold finK at h
    split at h
    · injection h with h; exact ⟨m, by assumption, Nat.le_refl _, h.symm⟩
    · split at h
      · rename_i hc
        injection h with h
        exact ⟨S.st.length, hc.1, hc.2, by rw [List.take_length]; exact h.symm⟩
      · cases h
  unfold endK at h
  split at h
  · rename_i r0
    obtain ⟨vs, h1, h2⟩ := resK_some _ _ _ h
    split at h2
    · rename_i v
      obtain ⟨m', h3⟩ := fin v h2
      refine ⟨v, m', ?_, h3⟩
      simp only [List.mapM_cons, List.mapM_nil, Option.bind_eq_bind, Option.pure_def, Option.bind_eq_some_iff] at h1
      obtain ⟨u, hu, h1⟩ := h1
      simp at h1
      simp [resA, hu, h1]
    · cases h2
  · rename_i hne
    split at h
    · rename_i hnd
      obtain ⟨vs, h1, h2⟩ := resK_some _ _ _ h
      simp only [Option.bind_eq_some_iff] at h2
      obtain ⟨v, hv, h2⟩ := h2
      obtain ⟨m', h3⟩ := fin v h2
      refine ⟨v, m', ?_, h3⟩
      unfold tupK at hv
      split at hv
      · rename_i hp
        injection hv with hv
        subst hv
        unfold resA
        split
        · rename_i r0; exact (hne r0 rfl).elim
        · simp only [h1, Option.bind_some]; rw [if_pos ⟨hnd, hp⟩]
      · cases hv
    · cases h

theorem FnA.of_evFn (hF : SoundF P F) (hD : SoundF P D) {f : Nat} {fn : Func} {c : Code} {rs : List ResultVar} {args : List V} {st : List Ob} {n : Nat} (pl : Pl) {r : V × List Ob}
    (hf : P.funcs[f]? = some fn) (hb : fn.body = some c) (hN : fn.ntmps = n) (hr : fn.results.toList = rs) (hn : args.length ≤ n) (h : evFn P F D pl n c rs args st = some r) :
    FnA P f args st fun v st' => v = r.1 ∧ st' = r.2 := by
  subst hr
  -- how many objects stay is known at the end: go by cases on the answer
  refine FnA.of_ends n hf hb hN hn fun C Rr hR => ?_
  refine W_post (evC_sound (C := C) hF hD c pl _ _ _ r h) fun ex S2 h2 => ⟨S2, Fgt.refl _ _, ?_⟩
  have fin : endK P S2 st.length fn.results.toList = some r → Rr .ret S2 ∧ Rr .normal S2 := fun h2 => by
    obtain ⟨v, m', h3, h4, h5, h6⟩ := endK_some h2
    refine hR S2 m' h5 ?_
    rw [h3]
    exact ⟨h4, by rw [h6], by rw [h6]⟩
  cases ex with
  | nor => exact (fin h2).2
  | ret => exact (fin h2).1
  | ex i => cases h2

def codeOf (f : Func) : Code := f.body.getD .skip

/-! tables of callees -/
abbrev lookT : List (Nat × (List V → List Ob → Option (V × List Ob))) → FEv → FEv
  | [], D => D
  | (g, h) :: t, D => fun f args st => if f = g then h args st else lookT t D f args st

def SoundG (P : Program) (f : Nat) (g : List V → List Ob → Option (V × List Ob)) : Prop := ∀ args st r, g args st = some r → FnA P f args st fun v st' => v = r.1 ∧ st' = r.2

theorem lookT_nil (hD : SoundF P D) : SoundF P (lookT [] D) := hD
theorem lookT_cons {f : Nat} {g : List V → List Ob → Option (V × List Ob)} {t} (hg : SoundG P f g) (ht : SoundF P (lookT t D)) : SoundF P (lookT ((f, g) :: t) D) := fun f' args st r h => by
  unfold lookT at h
  split at h
  · rename_i e; subst e; exact hg args st r h
  · exact ht f' args st r h

abbrev ap0 (g : List Ob → Option (V × List Ob)) : List V → List Ob → Option (V × List Ob) | [], st => g st | _, _ => none
abbrev ap1 (g : V → List Ob → Option (V × List Ob)) : List V → List Ob → Option (V × List Ob) | [a], st => g a st | _, _ => none
abbrev ap2 (g : V → V → List Ob → Option (V × List Ob)) : List V → List Ob → Option (V × List Ob) | [a, b], st => g a b st | _, _ => none
abbrev ap3 (g : V → V → V → List Ob → Option (V × List Ob)) : List V → List Ob → Option (V × List Ob) | [a, b, c], st => g a b c st | _, _ => none
abbrev ap4 (g : V → V → V → V → List Ob → Option (V × List Ob)) : List V → List Ob → Option (V × List Ob) | [a, b, c, d], st => g a b c d st | _, _ => none
abbrev ap5 (g : V → V → V → V → V → List Ob → Option (V × List Ob)) : List V → List Ob → Option (V × List Ob) | [a, b, c, d, e], st => g a b c d e st | _, _ => none
abbrev ap6 (g : V → V → V → V → V → V → List Ob → Option (V × List Ob)) : List V → List Ob → Option (V × List Ob) | [a, b, c, d, e, f], st => g a b c d e f st | _, _ => none

abbrev ap7 (g : V → V → V → V → V → V → V → List Ob → Option (V × List Ob)) : List V → List Ob → Option (V × List Ob) | [a, b, c, d, e, f, u], st => g a b c d e f u st | _, _ => none
abbrev ap8 (g : V → V → V → V → V → V → V → V → List Ob → Option (V × List Ob)) : List V → List Ob → Option (V × List Ob) | [a, b, c, d, e, f, u, v], st => g a b c d e f u v st | _, _ => none
abbrev ap9 (g : V → V → V → V → V → V → V → V → V → List Ob → Option (V × List Ob)) : List V → List Ob → Option (V × List Ob) | [a, b, c, d, e, f, u, v, w], st => g a b c d e f u v w st | _, _ => none
abbrev ap10 (g : V → V → V → V → V → V → V → V → V → V → List Ob → Option (V × List Ob)) : List V → List Ob → Option (V × List Ob) | [a, b, c, d, e, f, u, v, w, x], st => g a b c d e f u v w x st | _, _ => none

theorem G0 {f : Nat} {fn : Func} {c : Code} {ra : Array ResultVar} {n : Nat} {g : List Ob → Option (V × List Ob)} (pl : Pl) (hf : P.funcs[f]? = some fn) (hb : fn.body = some c) (hN : fn.ntmps = n) (hr : fn.results = ra) (hn : 0 ≤ n)
    (hF : SoundF P F) (hD : SoundF P D) (h : (fun st => evFn P F D pl n c ra.toList [] st) = g) : SoundG P f (ap0 g) := fun args st r hg => by
  subst h; unfold ap0 at hg; split at hg
  · exact FnA.of_evFn hF hD pl hf hb hN (by rw [hr]) hn hg
  · cases hg
theorem G1 {f : Nat} {fn : Func} {c : Code} {ra : Array ResultVar} {n : Nat} {g : V → List Ob → Option (V × List Ob)} (pl : Pl) (hf : P.funcs[f]? = some fn) (hb : fn.body = some c) (hN : fn.ntmps = n) (hr : fn.results = ra) (hn : 1 ≤ n)
    (hF : SoundF P F) (hD : SoundF P D) (h : (fun x0 st => evFn P F D pl n c ra.toList [x0] st) = g) : SoundG P f (ap1 g) := fun args st r hg => by
  subst h; unfold ap1 at hg; split at hg
  · exact FnA.of_evFn hF hD pl hf hb hN (by rw [hr]) hn hg
  · cases hg
theorem G2 {f : Nat} {fn : Func} {c : Code} {ra : Array ResultVar} {n : Nat} {g : V → V → List Ob → Option (V × List Ob)} (pl : Pl) (hf : P.funcs[f]? = some fn) (hb : fn.body = some c) (hN : fn.ntmps = n) (hr : fn.results = ra) (hn : 2 ≤ n)
    (hF : SoundF P F) (hD : SoundF P D) (h : (fun x0 x1 st => evFn P F D pl n c ra.toList [x0, x1] st) = g) : SoundG P f (ap2 g) := fun args st r hg => by
  subst h; unfold ap2 at hg; split at hg
  · exact FnA.of_evFn hF hD pl hf hb hN (by rw [hr]) hn hg
  · cases hg
theorem G3 {f : Nat} {fn : Func} {c : Code} {ra : Array ResultVar} {n : Nat} {g : V → V → V → List Ob → Option (V × List Ob)} (pl : Pl) (hf : P.funcs[f]? = some fn) (hb : fn.body = some c) (hN : fn.ntmps = n) (hr : fn.results = ra) (hn : 3 ≤ n)
    (hF : SoundF P F) (hD : SoundF P D) (h : (fun x0 x1 x2 st => evFn P F D pl n c ra.toList [x0, x1, x2] st) = g) : SoundG P f (ap3 g) := fun args st r hg => by
  subst h; unfold ap3 at hg; split at hg
  · exact FnA.of_evFn hF hD pl hf hb hN (by rw [hr]) hn hg
  · cases hg
theorem G4 {f : Nat} {fn : Func} {c : Code} {ra : Array ResultVar} {n : Nat} {g : V → V → V → V → List Ob → Option (V × List Ob)} (pl : Pl) (hf : P.funcs[f]? = some fn) (hb : fn.body = some c) (hN : fn.ntmps = n) (hr : fn.results = ra) (hn : 4 ≤ n)
    (hF : SoundF P F) (hD : SoundF P D) (h : (fun x0 x1 x2 x3 st => evFn P F D pl n c ra.toList [x0, x1, x2, x3] st) = g) : SoundG P f (ap4 g) := fun args st r hg => by
  subst h; unfold ap4 at hg; split at hg
  · exact FnA.of_evFn hF hD pl hf hb hN (by rw [hr]) hn hg
  · cases hg
theorem G5 {f : Nat} {fn : Func} {c : Code} {ra : Array ResultVar} {n : Nat} {g : V → V → V → V → V → List Ob → Option (V × List Ob)} (pl : Pl) (hf : P.funcs[f]? = some fn) (hb : fn.body = some c) (hN : fn.ntmps = n) (hr : fn.results = ra) (hn : 5 ≤ n)
    (hF : SoundF P F) (hD : SoundF P D) (h : (fun x0 x1 x2 x3 x4 st => evFn P F D pl n c ra.toList [x0, x1, x2, x3, x4] st) = g) : SoundG P f (ap5 g) := fun args st r hg => by
  subst h; unfold ap5 at hg; split at hg
  · exact FnA.of_evFn hF hD pl hf hb hN (by rw [hr]) hn hg
  · cases hg
theorem G6 {f : Nat} {fn : Func} {c : Code} {ra : Array ResultVar} {n : Nat} {g : V → V → V → V → V → V → List Ob → Option (V × List Ob)} (pl : Pl) (hf : P.funcs[f]? = some fn) (hb : fn.body = some c) (hN : fn.ntmps = n) (hr : fn.results = ra) (hn : 6 ≤ n)
    (hF : SoundF P F) (hD : SoundF P D) (h : (fun x0 x1 x2 x3 x4 x5 st => evFn P F D pl n c ra.toList [x0, x1, x2, x3, x4, x5] st) = g) : SoundG P f (ap6 g) := fun args st r hg => by
  subst h; unfold ap6 at hg; split at hg
  · exact FnA.of_evFn hF hD pl hf hb hN (by rw [hr]) hn hg
  · cases hg

theorem G7 {f : Nat} {fn : Func} {c : Code} {ra : Array ResultVar} {n : Nat} {g : V → V → V → V → V → V → V → List Ob → Option (V × List Ob)} (pl : Pl) (hf : P.funcs[f]? = some fn) (hb : fn.body = some c) (hN : fn.ntmps = n) (hr : fn.results = ra) (hn : 7 ≤ n)
    (hF : SoundF P F) (hD : SoundF P D) (h : (fun x0 x1 x2 x3 x4 x5 x6 st => evFn P F D pl n c ra.toList [x0, x1, x2, x3, x4, x5, x6] st) = g) : SoundG P f (ap7 g) := fun args st r hg => by
  subst h; unfold ap7 at hg; split at hg
  · exact FnA.of_evFn hF hD pl hf hb hN (by rw [hr]) hn hg
  · cases hg
theorem G8 {f : Nat} {fn : Func} {c : Code} {ra : Array ResultVar} {n : Nat} {g : V → V → V → V → V → V → V → V → List Ob → Option (V × List Ob)} (pl : Pl) (hf : P.funcs[f]? = some fn) (hb : fn.body = some c) (hN : fn.ntmps = n) (hr : fn.results = ra) (hn : 8 ≤ n)
    (hF : SoundF P F) (hD : SoundF P D) (h : (fun x0 x1 x2 x3 x4 x5 x6 x7 st => evFn P F D pl n c ra.toList [x0, x1, x2, x3, x4, x5, x6, x7] st) = g) : SoundG P f (ap8 g) := fun args st r hg => by
  subst h; unfold ap8 at hg; split at hg
  · exact FnA.of_evFn hF hD pl hf hb hN (by rw [hr]) hn hg
  · cases hg
theorem G9 {f : Nat} {fn : Func} {c : Code} {ra : Array ResultVar} {n : Nat} {g : V → V → V → V → V → V → V → V → V → List Ob → Option (V × List Ob)} (pl : Pl) (hf : P.funcs[f]? = some fn) (hb : fn.body = some c) (hN : fn.ntmps = n) (hr : fn.results = ra) (hn : 9 ≤ n)
    (hF : SoundF P F) (hD : SoundF P D) (h : (fun x0 x1 x2 x3 x4 x5 x6 x7 x8 st => evFn P F D pl n c ra.toList [x0, x1, x2, x3, x4, x5, x6, x7, x8] st) = g) : SoundG P f (ap9 g) := fun args st r hg => by
  subst h; unfold ap9 at hg; split at hg
  · exact FnA.of_evFn hF hD pl hf hb hN (by rw [hr]) hn hg
  · cases hg
theorem G10 {f : Nat} {fn : Func} {c : Code} {ra : Array ResultVar} {n : Nat} {g : V → V → V → V → V → V → V → V → V → V → List Ob → Option (V × List Ob)} (pl : Pl) (hf : P.funcs[f]? = some fn) (hb : fn.body = some c) (hN : fn.ntmps = n) (hr : fn.results = ra) (hn : 10 ≤ n)
    (hF : SoundF P F) (hD : SoundF P D) (h : (fun x0 x1 x2 x3 x4 x5 x6 x7 x8 x9 st => evFn P F D pl n c ra.toList [x0, x1, x2, x3, x4, x5, x6, x7, x8, x9] st) = g) : SoundG P f (ap10 g) := fun args st r hg => by
  subst h; unfold ap10 at hg; split at hg
  · exact FnA.of_evFn hF hD pl hf hb hN (by rw [hr]) hn hg
  · cases hg

end
end Go.AL
