import Derived.Test.YtddncbgdoplgiaaGreatAlO
import Derived.Tactics
namespace Go.AL
open Go.RowKit

section
variable {P : Program} {C : Ctx} {S : AS} {a : Act} {w w' : World} {G : Gh} {ρ : List Nat} {K : Nat → Nat}

/-! ### code -/
def W (P : Program) (C : Ctx) (c : Code) (S : AS) (Q : Exit → AS → Prop) : Prop :=
  ∀ a w G, Rel C S a w G → c.wp P (fun e a' w' => ∃ S' G', Q e S' ∧ Rel C S' a' w' G') a w

theorem W.mono {c : Code} {Q Q' : Exit → AS → Prop} (h : W P C c S Q) (hq : ∀ e S', Q e S' → Q' e S') : W P C c S Q' :=
  fun a w G hR => Code.wp_mono (fun _ _ _ ⟨S', G', h1, h2⟩ => ⟨S', G', hq _ _ h1, h2⟩) (h a w G hR)

theorem W_skip {Q : Exit → AS → Prop} (h : Q .normal S) : W P C .skip S Q := fun a w G hR => wp_skip ⟨S, G, h, hR⟩
theorem W_ret {Q : Exit → AS → Prop} (h : Q .ret S) : W P C .ret S Q := fun a w G hR => wp_ret ⟨S, G, h, hR⟩
theorem W_exit {id : Nat} {Q : Exit → AS → Prop} (h : Q (.exit id) S) : W P C (.exit id) S Q := fun a w G hR => wp_exit ⟨S, G, h, hR⟩
theorem W_label {id : Nat} {Q : Exit → AS → Prop} (h : Q .normal S) : W P C (.label id) S Q := fun a w G hR => wp_label ⟨S, G, h, hR⟩
theorem W_goto {id : Nat} {Q : Exit → AS → Prop} (h : Q (.goto id) S) : W P C (.goto id) S Q := fun a w G hR => wp_goto ⟨S, G, h, hR⟩

def thenE (K : AS → Prop) (Q : Exit → AS → Prop) : Exit → AS → Prop
  | .normal, S => K S
  | e, S => Q e S

def blockE (id : Nat) (Q : Exit → AS → Prop) : Exit → AS → Prop
  | .exit id', S => if id' = id then Q .normal S else Q (.exit id') S
  | e, S => Q e S

theorem W_seq {x y : Code} {Q : Exit → AS → Prop} (h : W P C x S (thenE (fun S' => W P C y S' Q) Q)) : W P C (.seq x y) S Q := fun a w G hR =>
  wp_seq (Code.wp_mono (fun e a' w' ⟨S', G', h1, h2⟩ => by
    cases e with
    | normal => exact h1 a' w' G' h2
    | _ => exact ⟨S', G', h1, h2⟩) (h a w G hR))

theorem W_block {id : Nat} {c : Code} {Q : Exit → AS → Prop} (h : W P C c S (blockE id Q)) : W P C (.block id c) S Q := fun a w G hR =>
  wp_block (Code.wp_mono (fun e a' w' ⟨S', G', h1, h2⟩ => by
    cases e with
    | exit id' =>
      simp only [blockE] at h1
      simp only [Exit.inBlock]
      split
      · rename_i hid; rw [if_pos hid] at h1; exact ⟨S', G', h1, h2⟩
      · rename_i hid; rw [if_neg hid] at h1; exact ⟨S', G', h1, h2⟩
    | _ => exact ⟨S', G', h1, h2⟩) (h a w G hR))

theorem W_cond {c : Operand} {x y : Code} {t : Bool} {Q : Exit → AS → Prop} (hc : S.ev c = .bool t) (h : W P C (if t then x else y) S Q) : W P C (.cond c x y) S Q := fun a w G hR => by
  obtain ⟨r, hv⟩ := hR.ev c
  rw [hc] at hv
  exact wp_cond (VR_bool hv).1 (h a w G hR)

theorem W_ite {c : Operand} {x y : Code} {Q : Exit → AS → Prop} {p : Prop} [Decidable p] (hc : S.ev c = .bool (decide p)) (ht : p → W P C x S Q) (hf : ¬ p → W P C y S Q) : W P C (.cond c x y) S Q := by
  refine W_cond hc ?_
  by_cases h : p
  · simpa [h] using ht h
  · simpa [h] using hf h

/-- the last slots of a state that a loop changes may stand for anything: an invariant over a ghost -/
theorem W_loop {α : Type} {c : Code} {Q : Exit → AS → Prop} (I : α → AS → Prop) (μ : α → Nat) (x : α) (h0 : I x S)
    (round : ∀ x S, I x S → W P C c S (thenE (fun S' => ∃ y, I y S' ∧ μ y < μ x) Q)) : W P C (.loop c) S Q := by
  intro a w G hR
  have key : ∀ (n : Nat) (x : α) (S : AS) (a : Act) (w : World) (G : Gh), μ x = n → I x S → Rel C S a w G →
      ∀ (b : Frame) (k : List Item) (cs : List Frame), ∃ e a' w', (∃ S' G', Q e S' ∧ Rel C S' a' w' G') ∧
        Arrives P (lone (b.at a (.code c :: .inLoop c :: k)) cs w) b k cs e a' w' := by
    intro n
    induction n using Nat.strongRecOn with
    | _ n ih =>
      intro x S a w G hn hI hR b k cs
      obtain ⟨e, a₁, w₁, ⟨S₁, G₁, hq, hR₁⟩, harr⟩ := round x S hI a w G hR b (.inLoop c :: k) cs
      cases e with
      | normal =>
        obtain ⟨y, hI₁, hlt⟩ := hq
        obtain ⟨e₂, a₂, w₂, hq₂, harr₂⟩ := ih (μ y) (hn ▸ hlt) y S₁ a₁ w₁ G₁ rfl hI₁ hR₁ b k cs
        exact ⟨e₂, a₂, w₂, hq₂, .of_steps (Steps.trans harr (.one step_inLoop)) harr₂⟩
      | exit id => exact ⟨_, a₁, w₁, ⟨S₁, G₁, hq, hR₁⟩, .pass (x := .inLoop c) rfl (fun _ _ => .inl (by simp)) harr⟩
      | goto l => exact ⟨_, a₁, w₁, ⟨S₁, G₁, hq, hR₁⟩, .pass (x := .inLoop c) rfl (fun _ _ => .inl (by simp)) harr⟩
      | ret => exact ⟨_, a₁, w₁, ⟨S₁, G₁, hq, hR₁⟩, .pass (x := .inLoop c) rfl (fun _ _ => .inl (by simp)) harr⟩
      | panic ch => exact ⟨_, a₁, w₁, ⟨S₁, G₁, hq, hR₁⟩, .pass (x := .inLoop c) rfl (fun _ _ => .inl (by simp)) harr⟩
      | outgrown => exact ⟨_, a₁, w₁, ⟨S₁, G₁, hq, hR₁⟩, .pass (x := .inLoop c) rfl (fun _ _ => .inl (by simp)) harr⟩
  intro b k cs
  obtain ⟨e, a', w', hq, harr⟩ := key _ x S a w G rfl h0 hR b k cs
  exact ⟨e, a', w', hq, .of_steps (.one step_loop) harr⟩

/-! ### regions -/
def wantA (all : List Oper) (S : AS) (o : Oper) : Option Bool :=
  match o.guard with
  | none => some true
  | some (j, b) =>
    match (all[j]?).bind (·.dst) with
    | some d =>
      match S.s d with
      | .bool t => some (t == b)
      | .tup _ => some false
      | _ => none
    | none => some false

theorem wantA_spec (hR : Rel C S a w G) {ops : Array Oper} {o : Oper} {t : Bool} (h : wantA ops.toList S o = some t) : Region.wanted o (yielded ops a.tmps) = t := by
  unfold wantA at h
  unfold Region.wanted
  split at h
  · rename_i hg; injection h with h; subst h; simp [hg]
  · rename_i j b hg
    simp only [hg]
    have hj : ops.toList[j]? = ops[j]? := by simp
    rw [hj] at h
    split at h
    · rename_i d hd
      unfold yielded
      rw [hd]
      simp only [Option.bind_some]
      have hs := hR.slots d
      split at h
      · rename_i u hu
        injection h with h; subst h
        rw [hu] at hs
        have hx := (VR_bool hs).1
        have : a.tmps[d]? = some (.bool u) := by
          rw [Array.getD_eq_getD_getElem?] at hx
          cases he : a.tmps[d]? with
          | none => rw [he] at hx; simp [undef] at hx
          | some y => rw [he] at hx; simpa using hx
        rw [this]
        cases u <;> cases b <;> rfl
      · rename_i vs hu
        injection h with h; subst h
        rw [hu] at hs
        obtain ⟨ws, hx, _⟩ := VR_tup hs
        cases he : a.tmps[d]? with
        | none => simp
        | some y =>
          rw [Array.getD_eq_getD_getElem?, he] at hx
          simp at hx
          subst hx
          simp
      · cases h
    · rename_i hd
      injection h with h; subst h
      simp [yielded, hd]

/-- the region's judgement -/
def RW (P : Program) (C : Ctx) (ops : Array Oper) (l : List Oper) (S : AS) (K : AS → Prop) : Prop :=
  ∀ a w G (Q : Exit → Act → World → Prop), Rel C S a w G → (∀ S' a' w' G', K S' → Rel C S' a' w' G' → Q .normal a' w') → wpList P ops Q l a w

theorem RW_nil {ops : Array Oper} {K : AS → Prop} (h : K S) : RW P C ops [] S K := fun a w G _ hR hq => by
  simpa [wpList] using hq S a w G h hR

def AS.skip (S : AS) (dst : Option Nat) : AS := match dst with | some d => S.put d (.tup []) | none => S

theorem Rel.skip (hR : Rel C S a w G) {dst : Option Nat} (hd : ∀ d, dst = some d → d < S.n) : ∃ G', Rel C (S.skip dst) (a.put dst undef) w G' := by
  cases dst with
  | none => exact ⟨G, hR⟩
  | some d => exact ⟨_, hR.put0 (hd d rfl) (v := .tup []) ⟨[], rfl, rfl⟩⟩

theorem RW_op {ops : Array Oper} {o : Oper} {l : List Oper} {K K' : AS → Prop} (hw : wantA ops.toList S o = some true) (ho : OpA P C o S K')
    (h : ∀ S', K' S' → RW P C ops l S' K) : RW P C ops (o :: l) S K := fun a w G Q hR hq => by
  simp only [wpList, wantA_spec hR hw, if_true]
  exact .inl (ho a w G _ _ hR fun S' a' w' G' hk hR' => h S' hk a' w' G' Q hR' hq)

theorem RW_skip {ops : Array Oper} {o : Oper} {l : List Oper} {K : AS → Prop} (hw : wantA ops.toList S o = some false) (hd : ∀ d, o.dst = some d → d < S.n)
    (h : RW P C ops l (S.skip o.dst) K) : RW P C ops (o :: l) S K := fun a w G Q hR hq => by
  simp only [wpList, wantA_spec hR hw, Bool.false_eq_true, if_false]
  obtain ⟨G', hR'⟩ := hR.skip hd
  exact h _ w G' Q hR' hq

theorem W_region {id : Nat} {ops : Array Oper} {Q : Exit → AS → Prop} (h : RW P C ops ops.toList S (Q .normal)) : W P C (.region id ops false) S Q := fun a w G hR =>
  wp_region_list (h a w G _ hR fun S' _ _ G' hk hR' => ⟨S', G', hk, hR'⟩)

def optK {α : Type} (x : Option α) (K : α → Prop) : Prop :=
  match x with
  | some y => K y
  | none => False

theorem optK_some {α : Type} {y : α} {K : α → Prop} : optK (some y) K = K y := rfl
theorem optK_none {α : Type} {K : α → Prop} : optK none K = False := rfl

def baseOf (ops : List Oper) (d : Nat) : Bool :=
  ops.any fun o => match o.op with
    | .call c => (match c.callee, c.args.toList with | .builtin .append, .tmp t :: _ => t == d | _, _ => false)
    | _ => false

theorem RW_ev {ops : Array Oper} {o : Oper} {l : List Oper} {K : AS → Prop} (hw : wantA ops.toList S o = some true)
    (h : optK (evOp P (baseOf ops.toList) S o) fun S' => RW P C ops l S' K) : RW P C ops (o :: l) S K := by
  unfold optK at h
  split at h
  · rename_i S' he
    exact RW_op hw (evOp_sound he) fun S'' e => e ▸ h
  · exact h.elim

end
end Go.AL
