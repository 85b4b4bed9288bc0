import Derived.Test.YtddncbgdoplgiaaGreatAlA
namespace Go.AL
open Go.RowKit

/-! ### Abstract states -/
inductive Ob where
  | box (v : V)
  | map (es : List (V × V))
  deriving Inhabited

def Ob.ahead (n : Nat) : Ob → Bool
  | .box v => v.ahead n
  | .map es => es.all fun e => e.1.ahead n && e.2.ahead n

structure AS where
  n : Nat
  s : Nat → V
  st : List Ob

def upd (s : Nat → V) (j : Nat) (v : V) : Nat → V := fun i => if i = j then v else s i

theorem upd_same (s : Nat → V) (j : Nat) (v : V) : upd s j v j = v := by simp [upd]
theorem upd_ne (s : Nat → V) {i j : Nat} (v : V) (h : i ≠ j) : upd s j v i = s i := by simp [upd, h]

def AS.put (S : AS) (j : Nat) (v : V) : AS := { S with s := upd S.s j v }

def V.ofVal : Value → V
  | .bool b => .bool b
  | .int k n => .int k n
  | .float k b => if b = nanMark then .dead else .flt k b
  | .string s => .str s.data.toList
  | .pointer none => .nilp
  | .slice none 0 0 => .own 0 0 []
  | .map none => .nilm
  | .nilFunc => .nilf
  | .nilIface => .nili
  | _ => .dead

def AS.ev (S : AS) : Operand → V
  | .tmp t => S.s t
  | .const v => V.ofVal v
  | .global _ => .dead
  | .func f => .fn f []

inductive Loc where
  | slot (j : Nat) | cell (i : Nat) | ob (i : Nat)
  deriving DecidableEq

/-- the ghost: objects' blocks, how far blocks are settled, who owns which rows -/
structure Gh where
  ρ : List Nat
  K : Nat → Nat
  R : Nat → List Nat
  T : Nat → List Nat
  ow : Nat → Option Loc

/-- what a frame began with -/
structure Ctx where
  w0 : World
  K0 : Nat → Nat
  prot : Nat → Prop
  ρ0 : List Nat

def ObR (ρ : List Nat) (K : Nat → Nat) (w : World) (b : Nat) (ob : Ob) (r : List Nat) : Prop :=
  match ob with
  | .box v => v.wf ∧ ∃ cs e, w.heap[b]? = some (.cells cs e (0, 0)) ∧ CRs ρ K w v.flat cs.toList r
  | .map es => r = [] ∧ ∃ ents clock, w.heap[b]? = some (.map ents clock) ∧ ents.size = es.length ∧
      ∀ (i : Nat) (k v : V) (e : MapEntry), es[i]? = some (k, v) → ents[i]? = some e → VR0 ρ K w k e.key [] ∧ VR0 ρ K w v e.val []

structure Rel (C : Ctx) (S : AS) (a : Act) (w : World) (G : Gh) : Prop where
  defs : a.defers = []
  tsz : a.tmps.size = S.n
  slots : ∀ j, VR G.ρ G.K w (S.s j) (a.tmps.getD j undef) (G.R j)
  slotsOw : ∀ j b, b ∈ G.R j → G.ow b = some (.slot j)
  slotsNd : ∀ j, (G.R j).Nodup
  len : G.ρ.length = S.st.length
  obs : ∀ (i : Nat) (ob : Ob) (b : Nat), S.st[i]? = some ob → G.ρ[i]? = some b → ObR G.ρ G.K w b ob (G.T i)
  obsOw : ∀ i b, b ∈ G.T i → G.ow b = some (.cell i)
  obsNd : ∀ i, (G.T i).Nodup
  ρOw : ∀ (i b : Nat), G.ρ[i]? = some b → G.ow b = some (.ob i) ∧ G.K b = 0
  ahead : ∀ (i : Nat) (ob : Ob), S.st[i]? = some ob → ob.ahead i = true
  ows : ∀ b l, G.ow b = some l → b < w.heap.size ∧ ¬ C.prot b
  fresh : ∀ b, w.heap.size ≤ b → G.K b = 0
  prot : ∀ b, C.prot b → b < C.w0.heap.size ∧ w.heap[b]? = C.w0.heap[b]? ∧ G.K b = C.K0 b
  stab : ∀ b off, off < C.K0 b → w.cell? ⟨b, off, none⟩ = C.w0.cell? ⟨b, off, none⟩
  mono : ∀ b, C.K0 b ≤ G.K b
  size : C.w0.heap.size ≤ w.heap.size
  os : w.os = C.w0.os
  tape : w.tape = C.w0.tape
  output : w.output = C.w0.output
  ρ0 : C.ρ0 <+: G.ρ

section
variable {ρ ρ' : List Nat} {K K' : Nat → Nat} {w w' : World}

theorem VR0.mono (hρ : ∀ (i b : Nat), ρ[i]? = some b → ρ'[i]? = some b)
    (hst : ∀ b off, off < K b → w'.cell? ⟨b, off, none⟩ = w.cell? ⟨b, off, none⟩) (hK : ∀ b, K b ≤ K' b)
    {v : V} {x : Value} {r : List Nat} (h : VR0 ρ K w v x r) (hr : ∀ b ∈ r, w'.heap[b]? = w.heap[b]? ∧ K' b = K b) : VR0 ρ' K' w' v x r :=
  let ⟨h1, cs, h2, h3⟩ := h
  ⟨h1, cs, h2.mono hρ hst hK hr, h3⟩

theorem TR.mono (hρ : ∀ (i b : Nat), ρ[i]? = some b → ρ'[i]? = some b)
    (hst : ∀ b off, off < K b → w'.cell? ⟨b, off, none⟩ = w.cell? ⟨b, off, none⟩) (hK : ∀ b, K b ≤ K' b)
    {vs : List V} {xs : List Value} {r : List Nat} (h : TR ρ K w vs xs r) (hr : ∀ b ∈ r, w'.heap[b]? = w.heap[b]? ∧ K' b = K b) : TR ρ' K' w' vs xs r := by
  induction vs generalizing xs r with
  | nil => cases xs <;> simp_all [TR]
  | cons v vs ih =>
    cases xs with
    | nil => simp [TR] at h
    | cons c cs =>
      obtain ⟨r1, r2, rfl, h1, h2⟩ := h
      exact ⟨r1, r2, rfl, h1.mono hρ hst hK (fun b hb => hr b (by simp [hb])), ih h2 (fun b hb => hr b (by simp [hb]))⟩

theorem VR.cases {P : V → Prop} (v : V) (h1 : P .dead) (h2 : ∀ vs, P (.tup vs)) (h3 : ∀ v, (∀ ρ K w x r, VR ρ K w v x r = VR0 ρ K w v x r) → P v) : P v := by
  cases v <;> first | exact h1 | exact h2 _ | exact h3 _ (fun _ _ _ _ _ => rfl)

theorem VR.mono (hρ : ∀ (i b : Nat), ρ[i]? = some b → ρ'[i]? = some b)
    (hst : ∀ b off, off < K b → w'.cell? ⟨b, off, none⟩ = w.cell? ⟨b, off, none⟩) (hK : ∀ b, K b ≤ K' b)
    {v : V} {x : Value} {r : List Nat} (h : VR ρ K w v x r) (hr : ∀ b ∈ r, w'.heap[b]? = w.heap[b]? ∧ K' b = K b) : VR ρ' K' w' v x r := by
  revert h
  refine VR.cases (P := fun v => VR ρ K w v x r → VR ρ' K' w' v x r) v (fun h => h) (fun vs h => ?_) (fun v hv h => ?_)
  · obtain ⟨ws, h1, h2⟩ := h
    exact ⟨ws, h1, h2.mono hρ hst hK hr⟩
  · rw [hv] at *
    exact h.mono hρ hst hK hr

theorem isAgg_view (v : V) : v.view.isAgg = v.isAgg := by
  cases v <;> first
    | rfl
    | (simp only [V.view]; split <;> rfl)

theorem VR0.view {v : V} {x : Value} {r : List Nat} (h : VR0 ρ K w v x r) : VR0 ρ K w v.view x [] := by
  obtain ⟨h1, cs, h2, h3⟩ := h
  refine ⟨wf_view v h1, cs, ?_, ?_⟩
  · rw [flat_view]; exact h2.view
  · rw [h3]; simp [V.mk, isAgg_view]

theorem TR.view {vs : List V} {xs : List Value} {r : List Nat} (h : TR ρ K w vs xs r) : TR ρ K w (V.views vs) xs [] := by
  induction vs generalizing xs r with
  | nil => cases xs <;> simp_all [TR, V.views]
  | cons v vs ih =>
    cases xs with
    | nil => simp [TR] at h
    | cons c cs =>
      obtain ⟨r1, r2, rfl, h1, h2⟩ := h
      exact ⟨[], [], rfl, h1.view, ih h2⟩

theorem VR.view {v : V} {x : Value} {r : List Nat} (h : VR ρ K w v x r) : VR ρ K w v.view x [] := by
  revert h
  refine VR.cases (P := fun v => VR ρ K w v x r → VR ρ K w v.view x []) v (fun h => rfl) (fun vs h => ?_) (fun v hv h => ?_)
  · obtain ⟨ws, h1, h2⟩ := h
    exact ⟨ws, h1, h2.view⟩
  · rw [hv] at h
    have := h.view
    generalize v.view = u at *
    revert this
    refine VR.cases (P := fun u => VR0 ρ K w u x [] → VR ρ K w u x []) u (fun _ => rfl) (fun vs h => ?_) (fun v hv h => by rw [hv]; exact h)
    obtain ⟨_, cs, h2, h3⟩ := h
    simp only [V.flat] at h2
    cases cs with
    | nil => simp [CRs] at h2
    | cons c cs => obtain ⟨_, _, _, h4, _⟩ := h2; cases h4

theorem VR.dead_rows {x : Value} {r : List Nat} (h : VR ρ K w .dead x r) : r = [] := h

theorem ObR.mono (hρ : ∀ (i b : Nat), ρ[i]? = some b → ρ'[i]? = some b)
    (hst : ∀ b off, off < K b → w'.cell? ⟨b, off, none⟩ = w.cell? ⟨b, off, none⟩) (hK : ∀ b, K b ≤ K' b)
    {b : Nat} {ob : Ob} {r : List Nat} (h : ObR ρ K w b ob r) (hb : w'.heap[b]? = w.heap[b]?) (hr : ∀ b ∈ r, w'.heap[b]? = w.heap[b]? ∧ K' b = K b) : ObR ρ' K' w' b ob r := by
  cases ob with
  | box v =>
    obtain ⟨h1, cs, e, h2, h3⟩ := h
    exact ⟨h1, cs, e, hb.trans h2, h3.mono hρ hst hK hr⟩
  | map es =>
    obtain ⟨rfl, ents, clock, h2, h3, h4⟩ := h
    exact ⟨rfl, ents, clock, hb.trans h2, h3, fun i k v e hi he => ⟨(h4 i k v e hi he).1.mono hρ hst hK (by simp), (h4 i k v e hi he).2.mono hρ hst hK (by simp)⟩⟩

theorem getD_setIfInBounds {a : Array Value} {i j : Nat} {x : Value} (hi : i < a.size) : (a.setIfInBounds i x).getD j undef = if j = i then x else a.getD j undef := by
  simp only [Array.getD_eq_getD_getElem?, Array.getElem?_setIfInBounds]
  by_cases h : i = j
  · subst h; simp [hi]
  · simp [h, Ne.symm h]

end

section
variable {C : Ctx} {S : AS} {a : Act} {w w' : World} {G : Gh}

/-- a pure result in a slot -/
theorem Rel.put0 (h : Rel C S a w G) {d : Nat} (hd : d < S.n) {v : V} {x : Value} (hv : VR G.ρ G.K w v x []) :
    Rel C (S.put d v) (a.put (some d) x) w { G with R := fun j => if j = d then [] else G.R j } := by
  refine { h with tsz := ?_, slots := fun j => ?_, slotsOw := fun j b hb => ?_, slotsNd := fun j => ?_ }
  · simp [Act.put, AS.put, h.tsz]
  · simp only [Act.put, AS.put, upd]
    rw [getD_setIfInBounds (by rw [h.tsz]; exact hd)]
    by_cases hj : j = d
    · simp only [hj, if_true]; exact hv
    · simp only [hj, if_false]; exact h.slots j
  · by_cases hj : j = d
    · simp [hj] at hb
    · simp only [hj, if_false] at hb; exact h.slotsOw j b hb
  · by_cases hj : j = d
    · simp [hj]
    · simp only [hj, if_false]; exact h.slotsNd j

/-- nothing is written -/
theorem Rel.put_none (h : Rel C S a w G) {x : Value} : Rel C S (a.put none x) w G := h

/-- a slot forgets what it owns -/
theorem Rel.unown (h : Rel C S a w G) (t : Nat) : Rel C (S.put t (S.s t).view) a w { G with R := fun j => if j = t then [] else G.R j } := by
  refine { h with slots := fun j => ?_, slotsOw := fun j b hb => ?_, slotsNd := fun j => ?_ }
  · simp only [AS.put, upd]
    by_cases hj : j = t
    · simp only [hj, if_true]; exact (h.slots t).view
    · simp only [hj, if_false]; exact h.slots j
  · by_cases hj : j = t
    · simp [hj] at hb
    · simp only [hj, if_false] at hb; exact h.slotsOw j b hb
  · by_cases hj : j = t
    · simp [hj]
    · simp only [hj, if_false]; exact h.slotsNd j

/-- a slot is forgotten -/
theorem Rel.kill (h : Rel C S a w G) (t : Nat) : Rel C (S.put t .dead) a w { G with R := fun j => if j = t then [] else G.R j } := by
  refine { h with slots := fun j => ?_, slotsOw := fun j b hb => ?_, slotsNd := fun j => ?_ }
  · simp only [AS.put, upd]
    by_cases hj : j = t
    · simp only [hj, if_true]; rfl
    · simp only [hj, if_false]; exact h.slots j
  · by_cases hj : j = t
    · simp [hj] at hb
    · simp only [hj, if_false] at hb; exact h.slotsOw j b hb
  · by_cases hj : j = t
    · simp [hj]
    · simp only [hj, if_false]; exact h.slotsNd j

/-- what a slot holds, and owns, goes to another one -/
theorem Rel.give (h : Rel C S a w G) {d t : Nat} (hd : d < S.n) :
    Rel C { S with s := upd (upd S.s t (S.s t).view) d (S.s t) } (a.put (some d) (a.tmps.getD t undef)) w
      { G with R := fun j => if j = d then G.R t else if j = t then [] else G.R j, ow := fun b => if b ∈ G.R t then some (.slot d) else G.ow b } := by
  refine { h with tsz := ?_, slots := fun j => ?_, slotsOw := fun j b hb => ?_, slotsNd := fun j => ?_, obsOw := fun i b hb => ?_, ρOw := fun i b hb => ?_, ows := fun b l hb => ?_ }
  · simp [Act.put, h.tsz]
  · simp only [Act.put, upd]
    rw [getD_setIfInBounds (by rw [h.tsz]; exact hd)]
    by_cases hj : j = d
    · simp only [hj, if_true]; exact h.slots t
    · simp only [hj, if_false]
      by_cases hj' : j = t
      · simp only [hj', if_true]; exact (h.slots t).view
      · simp only [hj', if_false]; exact h.slots j
  · by_cases hj : j = d
    · simp only [hj, if_true] at hb; simp [hb, hj]
    · simp only [hj, if_false] at hb
      by_cases hj' : j = t
      · simp [hj'] at hb
      · simp only [hj', if_false] at hb
        have h1 := h.slotsOw j b hb
        have : b ∉ G.R t := fun hb' => by rw [h.slotsOw t b hb'] at h1; injection h1 with h1; injection h1 with h1; exact hj' h1.symm
        simp [this, h1]
  · by_cases hj : j = d
    · simp only [hj, if_true]; exact h.slotsNd t
    · simp only [hj, if_false]
      by_cases hj' : j = t
      · simp [hj']
      · simp only [hj', if_false]; exact h.slotsNd j
  · have h1 := h.obsOw i b hb
    have : b ∉ G.R t := fun hb' => by rw [h.slotsOw t b hb'] at h1; injection h1 with h1; cases h1
    simp [this, h1]
  · have h1 := h.ρOw i b hb
    have : b ∉ G.R t := fun hb' => by rw [h.slotsOw t b hb'] at h1; have := h1.1; injection this with this; cases this
    simp [this, h1]
  · by_cases hb' : b ∈ G.R t
    · exact h.ows b _ (h.slotsOw t b hb')
    · simp only [hb', if_false] at hb; exact h.ows b l hb

/-- new memory, a draw: whatever there was is there -/
theorem Rel.ext (h : Rel C S a w G) {K' : Nat → Nat} (hs : w.heap.size ≤ w'.heap.size) (ho : ∀ b, b < w.heap.size → w'.heap[b]? = w.heap[b]?)
    (hK : ∀ b, b < w.heap.size → K' b = G.K b) (hf : ∀ b, w'.heap.size ≤ b → K' b = 0)
    (hos : w'.os = w.os) (htape : w'.tape = w.tape) (hout : w'.output = w.output) : Rel C S a w' { G with K := K' } := by
  have hst : ∀ b off, off < G.K b → w'.cell? ⟨b, off, none⟩ = w.cell? ⟨b, off, none⟩ := fun b off hlt => by
    rcases Nat.lt_or_ge b w.heap.size with hb | hb
    · simp [World.cell?, ho b hb]
    · rw [h.fresh b hb] at hlt; omega
  have hKm : ∀ b, G.K b ≤ K' b := fun b => by
    rcases Nat.lt_or_ge b w.heap.size with hb | hb
    · rw [hK b hb]; exact Nat.le_refl _
    · rw [h.fresh b hb]; omega
  have hrow : ∀ b l, G.ow b = some l → w'.heap[b]? = w.heap[b]? ∧ K' b = G.K b := fun b l hb => ⟨ho b (h.ows b l hb).1, hK b (h.ows b l hb).1⟩
  refine { h with slots := fun j => ?_, obs := fun i ob b hi hb => ?_, ρOw := fun i b hb => ?_, ows := fun b l hb => ?_, fresh := hf, prot := fun b hb => ?_, stab := fun b off hlt => ?_, mono := fun b => ?_, size := ?_, os := ?_, tape := ?_, output := ?_ }
  · exact (h.slots j).mono (fun _ _ h => h) hst hKm fun b hb => hrow b _ (h.slotsOw j b hb)
  · exact (h.obs i ob b hi hb).mono (fun _ _ h => h) hst hKm (hrow b _ (h.ρOw i b hb).1).1 fun b hb => hrow b _ (h.obsOw i b hb)
  · exact ⟨(h.ρOw i b hb).1, (hrow b _ (h.ρOw i b hb).1).2.trans (h.ρOw i b hb).2⟩
  · exact ⟨Nat.lt_of_lt_of_le (h.ows b l hb).1 hs, (h.ows b l hb).2⟩
  · obtain ⟨h1, h2, h3⟩ := h.prot b hb
    have hlt : b < w.heap.size := Nat.lt_of_lt_of_le h1 h.size
    exact ⟨h1, (ho b hlt).trans h2, (hK b hlt).trans h3⟩
  · exact (hst b off (Nat.lt_of_lt_of_le hlt (h.mono b))).trans (h.stab b off hlt)
  · exact Nat.le_trans (h.mono b) (hKm b)
  · exact Nat.le_trans h.size hs
  · exact hos.trans h.os
  · exact htape.trans h.tape
  · exact hout.trans h.output

theorem Rel.drew (h : Rel C S a w G) : Rel C S a w.drew G :=
  h.ext (K' := G.K) (Nat.le_refl _) (fun _ _ => rfl) (fun _ _ => rfl) h.fresh rfl rfl rfl

/-- a new block, settled as far as K' says -/
theorem Rel.alloc (h : Rel C S a w G) (o : Obj) (m : Nat) : Rel C S a (w.alloc o) { G with K := fun b => if b = w.heap.size then m else G.K b } := by
  refine h.ext ?_ (fun b hb => ?_) (fun b hb => ?_) (fun b hb => ?_) rfl rfl rfl
  · simp
  · exact Below.heap_alloc _ _ _ hb
  · simp [Nat.ne_of_lt hb]
  · have : w.heap.size + 1 ≤ b := by simpa using hb
    have hne : b ≠ w.heap.size := by omega
    simp only [hne, if_false]
    exact h.fresh b (by omega)

/-- the block that was just made, of which nothing is settled, is an object from now on -/
theorem Rel.object (h : Rel C S a w G) {b : Nat} (hb : b < w.heap.size) (hnew : C.w0.heap.size ≤ b) (hno : G.ow b = none) (hK : G.K b = 0) {ob : Ob}
    (hob : ObR G.ρ G.K w b ob []) (hah : ob.ahead S.st.length = true) :
    Rel C { S with st := S.st ++ [ob] } a w { G with ρ := G.ρ ++ [b], T := fun i => if i = S.st.length then [] else G.T i, ow := fun x => if x = b then some (.ob S.st.length) else G.ow x } := by
  have hρ : ∀ (i c : Nat), G.ρ[i]? = some c → (G.ρ ++ [b])[i]? = some c := fun i c hi => by
    rw [List.getElem?_append_left]; exact hi
    exact (List.getElem?_eq_some_iff.1 hi).1
  have hne : ∀ x l, G.ow x = some l → x ≠ b := fun x l hx he => by rw [he, hno] at hx; cases hx
  refine { h with slots := fun j => ?_, slotsOw := fun j x hx => ?_, len := ?_, obs := fun i o x hi hx => ?_, obsOw := fun i x hx => ?_, obsNd := fun i => ?_, ρOw := fun i x hx => ?_, ahead := fun i o hi => ?_, ows := fun x l hx => ?_, ρ0 := ?_ }
  · exact (h.slots j).mono hρ (fun _ _ _ => rfl) (fun _ => Nat.le_refl _) fun _ _ => ⟨rfl, rfl⟩
  · have := h.slotsOw j x hx
    simp [hne x _ this, this]
  · simp [h.len]
  · rw [List.getElem?_append] at hi hx
    rw [h.len] at hx
    by_cases hlt : i < S.st.length
    · rw [if_pos hlt] at hi hx
      have := h.obs i o x hi hx
      simp only [Nat.ne_of_lt hlt, if_false]
      exact this.mono hρ (fun _ _ _ => rfl) (fun _ => Nat.le_refl _) rfl fun _ _ => ⟨rfl, rfl⟩
    · rw [if_neg hlt] at hi hx
      have hi0 : i = S.st.length := by
        rcases Nat.lt_or_ge (i - S.st.length) 1 with h1 | h1
        · omega
        · rw [List.getElem?_eq_none (by simpa using h1)] at hi; cases hi
      subst hi0
      simp at hi hx
      subst hi hx
      simp only [if_true]
      exact hob.mono hρ (fun _ _ _ => rfl) (fun _ => Nat.le_refl _) rfl (by simp)
  · by_cases hi : i = S.st.length
    · simp [hi] at hx
    · simp only [hi, if_false] at hx
      have := h.obsOw i x hx
      simp [hne x _ this, this]
  · by_cases hi : i = S.st.length
    · simp [hi]
    · simp only [hi, if_false]; exact h.obsNd i
  · rw [List.getElem?_append, h.len] at hx
    by_cases hlt : i < S.st.length
    · rw [if_pos hlt] at hx
      have := h.ρOw i x hx
      simp [hne x _ this.1, this]
    · rw [if_neg hlt] at hx
      have hi0 : i = S.st.length := by
        rcases Nat.lt_or_ge (i - S.st.length) 1 with h1 | h1
        · omega
        · rw [List.getElem?_eq_none (by simpa using h1)] at hx; cases hx
      subst hi0
      simp at hx
      subst hx
      simp [hK]
  · rw [List.getElem?_append] at hi
    by_cases hlt : i < S.st.length
    · rw [if_pos hlt] at hi; exact h.ahead i o hi
    · rw [if_neg hlt] at hi
      have hi0 : i = S.st.length := by
        rcases Nat.lt_or_ge (i - S.st.length) 1 with h1 | h1
        · omega
        · rw [List.getElem?_eq_none (by simpa using h1)] at hi; cases hi
      subst hi0
      simp at hi
      subst hi
      exact hah
  · by_cases hx' : x = b
    · subst hx'
      exact ⟨hb, fun hp => by have := (h.prot x hp).1; omega⟩
    · simp only [hx', if_false] at hx; exact h.ows x l hx
  · exact h.ρ0.trans (List.prefix_append _ _)

end
end Go.AL
