import Derived.Test.YtddncbgdoplgiaaGreatAlR
namespace Go.AL
open Go.RowKit

section
variable {P : Program} {C : Ctx} {S : AS} {a : Act} {w w' : World} {G : Gh} {ρ ρ' : List Nat} {K : Nat → Nat}

theorem VR0.keep {n : Nat} (hρ : ∀ (i b : Nat), i < n → ρ[i]? = some b → ρ'[i]? = some b) {v : V} {x : Value} {r : List Nat} (h : VR0 ρ K w v x r) (hb : v.ahead n = true) : VR0 ρ' K w v x r := by
  obtain ⟨h1, cs, h2, h3⟩ := h
  exact ⟨h1, cs, h2.keep hρ (ahead_flat n v hb), h3⟩

theorem TR.keep {n : Nat} (hρ : ∀ (i b : Nat), i < n → ρ[i]? = some b → ρ'[i]? = some b) {vs : List V} {xs : List Value} {r : List Nat} (h : TR ρ K w vs xs r) (hb : V.aheads n vs = true) : TR ρ' K w vs xs r := by
  induction vs generalizing xs r with
  | nil => cases xs <;> simp_all [TR]
  | cons v vs ih =>
    cases xs with
    | nil => simp [TR] at h
    | cons c cs =>
      obtain ⟨r1, r2, rfl, h1, h2⟩ := h
      simp only [V.aheads, Bool.and_eq_true] at hb
      exact ⟨r1, r2, rfl, h1.keep hρ hb.1, ih h2 hb.2⟩

theorem VR.keep {n : Nat} (hρ : ∀ (i b : Nat), i < n → ρ[i]? = some b → ρ'[i]? = some b) {v : V} {x : Value} {r : List Nat} (h : VR ρ K w v x r) (hb : v.ahead n = true) : VR ρ' K w v x r := by
  revert h hb
  refine VR.cases (P := fun v => VR ρ K w v x r → v.ahead n = true → VR ρ' K w v x r) v (fun h _ => h) (fun vs h hb => ?_) (fun v hv h hb => ?_)
  · obtain ⟨ws, h1, h2⟩ := h
    exact ⟨ws, h1, h2.keep hρ (by simpa [V.ahead] using hb)⟩
  · rw [hv] at *
    exact h.keep hρ hb

/-- objects that nothing left names are forgotten -/
theorem Rel.trunc (hR : Rel C S a w G) {m : Nat} (hm : C.ρ0.length ≤ m) (hs : ∀ j, (S.s j).ahead m = true) :
    ∃ G', Rel C { S with st := S.st.take m } a w G' := by
  have hρ : ∀ (i b : Nat), i < m → G.ρ[i]? = some b → (G.ρ.take m)[i]? = some b := fun i b hi hb => by simp [hi, hb]
  refine ⟨{ G with ρ := G.ρ.take m }, { hR with slots := fun j => (hR.slots j).keep hρ (hs j), len := ?_, obs := fun i ob b hi hb => ?_, ρOw := fun i b hb => ?_, ahead := fun i ob hi => ?_, ρ0 := ?_ }⟩
  · simp [hR.len]
  · simp only [List.getElem?_take] at hi hb
    split at hi
    · rename_i hlt
      rw [if_pos hlt] at hb
      have h := hR.obs i ob b hi hb
      have ha := hR.ahead i ob hi
      cases ob with
      | box v =>
        obtain ⟨h1, cs, e, h2, h3⟩ := h
        have := ahead_flat i v (by simpa [Ob.ahead] using ha)
        exact ⟨h1, cs, e, h2, h3.keep (n := i) (fun j b hj hb => hρ j b (by omega) hb) this⟩
      | map es =>
        obtain ⟨h0, ents, clock, h2, h3, h4⟩ := h
        refine ⟨h0, ents, clock, h2, h3, fun j k v e hj he => ?_⟩
        have hmem : V.ahead i k = true ∧ V.ahead i v = true := by
          have := List.all_eq_true.1 (show (es.all fun e => e.1.ahead i && e.2.ahead i) = true from ha) (k, v) (List.mem_of_getElem? hj)
          simpa using this
        have := h4 j k v e hj he
        exact ⟨this.1.keep (n := i) (fun j b hj hb => hρ j b (by omega) hb) hmem.1, this.2.keep (n := i) (fun j b hj hb => hρ j b (by omega) hb) hmem.2⟩
    · cases hi
  · simp only [List.getElem?_take] at hb
    split at hb
    · exact hR.ρOw i b hb
    · cases hb
  · simp only [List.getElem?_take] at hi
    split at hi
    · exact hR.ahead i ob hi
    · cases hi
  · obtain ⟨l, hl⟩ := hR.ρ0
    rw [← hl]
    exact ⟨l.take (m - C.ρ0.length), by rw [List.take_append, List.take_of_length_le hm]⟩

/-- the end of a body: m of the objects stay -/
def endE (P : Program) (fn : Func) (m : Nat) (Q : V → List Ob → Prop) : Exit → AS → Prop
  | .normal, S | .ret, S => optK (resA P S fn.results.toList) fun v => v.ahead m = true ∧ Q v (S.st.take m)
  | _, _ => False

theorem FnA.of_body {f : FuncId} {fn : Func} {c : Code} {args : List V} {st : List Ob} {Q : V → List Ob → Prop} (m : Nat) (hm : st.length ≤ m) (hf : P.funcs[f]? = some fn) (hb : fn.body = some c) (hn : args.length ≤ fn.ntmps)
    (h : ∀ C, W P C c (AS.enter fn.ntmps args st) (endE P fn m Q)) : FnA P f args st Q := by
  intro C xs G hρ hK hR
  have hlen : C.ρ0.length ≤ m := by rw [hρ, hR.len]; exact hm
  refine calls_of_wp hf hb (Code.wp_mono (fun e a' w' ⟨S', G', hq, hR'⟩ => ?_) (h C _ _ G (hR.enter hn)))
  have key : (e = .normal ∨ e = .ret) → bodyPost P fn (fun e w' => ∃ x v st' G', e = .returned x ∧ Q v st' ∧ Rel C (AS.args [v] st') { tmps := #[x], defers := [] } w' G') e a' w' := by
    intro he
    have hq' : optK (resA P S' fn.results.toList) fun v => v.ahead m = true ∧ Q v (S'.st.take m) := by rcases he with rfl | rfl <;> exact hq
    unfold optK at hq'
    split at hq'
    · rename_i v hv
      obtain ⟨x, G'', hrun, hR''⟩ := hR'.result (P := P) hv
      obtain ⟨G3, hR3⟩ := hR''.trunc hlen fun j => by
        cases j with
        | zero => exact hq'.1
        | succ j => rfl
      rcases he with rfl | rfl <;> exact ⟨hR'.defs, x, hrun, x, v, S'.st.take m, G3, rfl, hq'.2, hR3⟩
    · exact hq'.elim
  cases e with
  | normal => exact key (.inl rfl)
  | ret => exact key (.inr rfl)
  | _ => exact hq.elim

end
end Go.AL
