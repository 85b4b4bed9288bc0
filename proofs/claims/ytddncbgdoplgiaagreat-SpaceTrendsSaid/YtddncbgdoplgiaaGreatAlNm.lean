import Derived.Test.YtddncbgdoplgiaaGreatAlN
namespace Go.AL
open Go.RowKit

section
variable {P : Program} {C : Ctx} {S : AS} {a : Act} {w w' : World} {G : Gh} {ρ : List Nat} {K : Nat → Nat}

/-! ### maps with keys that are whole numbers -/
def keyEq : V → V → Option Bool
  | .int k a, .int k' b => if k = k' then some (a == b) else none
  | _, _ => none

def mapFind (k : V) : List (V × V) → Nat → Option (Option (Nat × V))
  | [], _ => some none
  | e :: es, i =>
    match keyEq k e.1 with
    | some true => some (some (i, e.2))
    | some false => mapFind k es (i + 1)
    | none => none

def mapS (P : Program) (t : TypeId) : Option (TypeId × TypeId) :=
  match P.underlying t with
  | some (.map k e) => some (k, e)
  | _ => none

theorem mapS_spec {t k e : TypeId} (h : mapS P t = some (k, e)) : P.underlying t = some (.map k e) := by
  unfold mapS at h
  split at h
  · injection h with h; injection h with h1 h2; subst h1 h2; assumption
  · cases h

def intT (P : Program) (t : TypeId) : Bool := match P.underlying t with | some (.int _) => true | _ => false

theorem intT_spec {t : TypeId} (h : intT P t = true) : ∃ k, P.underlying t = some (.int k) := by
  unfold intT at h
  split at h
  · exact ⟨_, by assumption⟩
  · cases h

def evMakeMap (P : Program) (t : TypeId) (S : AS) (d : Nat) : AS := AS.put { S with st := S.st ++ [.map []] } d (.mp S.st.length)

theorem evMakeMap_sound {o : Oper} {t : TypeId} {d : Nat} (ho : o.op = .makeMap t none) (hdst : o.dst = some d) (hd : d < S.n) : OpA P C o S (· = evMakeMap P t S d) := by
  intro a w G next Q hR hn
  have hrun : (execOp a.eval o).run P w = .ok (.value (.map (some w.heap.size))) (w.alloc (.map #[] 0)) := by
    simp [execOp, ho, Instr.makeMap, newObj, Sem.run]
  have h1 := hR.alloc (.map #[] 0) 0
  have hob : ObR G.ρ (fun b => if b = w.heap.size then 0 else G.K b) (w.alloc (.map #[] 0)) w.heap.size (.map []) [] :=
    ⟨rfl, #[], 0, by simpa using heap_alloc_new w (.map #[] 0), rfl, fun i k v e hi _ => by simp at hi⟩
  have hR' := h1.object (b := w.heap.size) (by simp) hR.size (ow_new hR (Nat.le_refl _)) (by simp) hob (by simp [Ob.ahead])
  unfold Oper.wp
  rw [hrun, Oper.upon_value, hdst]
  refine hn _ _ _ _ rfl (hR'.put0 (S := { S with st := S.st ++ [.map []] }) hd (VR.of_cell (.mp _ _ ?_)))
  simp only
  rw [List.getElem?_append_right (by rw [hR.len]; exact Nat.le_refl _), hR.len]; simp

theorem findNow_spec {kd : IntKind} {k : V} {kv : Value} {rk : List Nat} (hk : VR ρ K w k kv rk) : ∀ (es : List (V × V)) (ents : List MapEntry) (i : Nat) (r : Option (Nat × V)),
    ents.length = es.length → (∀ (j : Nat) (x y : V) (e : MapEntry), es[j]? = some (x, y) → ents[j]? = some e → VR0 ρ K w x e.key [] ∧ VR0 ρ K w y e.val []) → mapFind k es i = some r →
    (r = none ∧ Instr.findNow (.int kd) kv ents i = some none) ∨ ∃ j v x, r = some (j, v) ∧ Instr.findNow (.int kd) kv ents i = some (some (j, x)) ∧ VR0 ρ K w v x []
  | [], [], i, r, _, _, h => by simp only [mapFind, Option.some.injEq] at h; exact .inl ⟨h.symm, rfl⟩
  | [], _ :: _, _, _, hl, _, _ => by simp at hl
  | _ :: _, [], _, _, hl, _, _ => by simp at hl
  | (x, y) :: es, e :: ents, i, r, hl, hrel, h => by
    obtain ⟨hx, hy⟩ := hrel 0 x y e rfl rfl
    simp only [mapFind] at h
    cases hq : keyEq k x with
    | none => simp only [hq] at h; cases h
    | some b =>
      simp only [hq] at h
      have hs : Instr.sameNow (.int kd) kv e.key = some b := by
        unfold keyEq at hq
        split at hq
        · split at hq
          · rename_i hkk
            injection hq with hq
            rw [(VR_int hk).1, (VR_int (VR_of_VR0 hx)).1]
            simp only [Instr.sameNow, hkk, if_true, hq]
          · cases hq
        · cases hq
      simp only [Instr.findNow, hs]
      cases b with
      | true => simp only [Option.some.injEq] at h; exact .inr ⟨i, y, e.val, h.symm, rfl, hy⟩
      | false => exact findNow_spec hk es ents (i + 1) r (by simpa using hl) (fun j x y e h1 h2 => hrel (j + 1) x y e (by simpa using h1) (by simpa using h2)) h

def AS.mapOf (S : AS) : V → Option (List (V × V))
  | .nilm => some []
  | .mp o => match S.st[o]? with | some (.map es) => some es | _ => none
  | _ => none

def evLookup (P : Program) (t : TypeId) (S : AS) (m k : V) (ok : Bool) : Option V :=
  (mapS P t).bind fun q => if intT P q.1 then
    (S.mapOf m).bind fun es => (mapFind k es 0).bind fun r =>
      match r with
      | some (_, v) => if v.isVal then some (if ok then .tup [v.view, .bool true] else v.view) else none
      | none => (zeroOf P q.2).bind fun z => if z.isVal then some (if ok then .tup [z, .bool false] else z) else none
  else none

theorem run_checkKey {t : TypeId} {k : IntKind} (h : P.underlying t = some (.int k)) (b : Bool) (v : Value) : (Instr.checkKey b 10000 t v).run P w = .ok () w := by
  unfold Instr.checkKey
  simp [run_underlying h]

theorem evLookup_run {t : TypeId} {ok : Bool} (hR : Rel C S a w G) {m k v : V} {x y : Value} {rx ry : List Nat} (hx : VR G.ρ G.K w m x rx) (hy : VR G.ρ G.K w k y ry) (h : evLookup P t S m k ok = some v) :
    ∃ z, (Instr.lookup t x y ok).run P w = .ok z w ∧ VR G.ρ G.K w v z [] := by
  unfold evLookup at h
  simp only [Option.bind_eq_some_iff] at h
  obtain ⟨⟨kt, et⟩, hq, h⟩ := h
  split at h
  · rename_i hi
    simp only [Option.bind_eq_some_iff] at h
    obtain ⟨es, hes, r, hr, h⟩ := h
    obtain ⟨kd, hkd⟩ := intT_spec hi
    have ht := mapS_spec hq
    simp only at hkd
    have hm : ∃ ents : Array MapEntry, ((x = .map none ∧ ents = #[]) ∨ ∃ b clock, x = .map (some b) ∧ w.heap[b]? = some (.map ents clock)) ∧ ents.toList.length = es.length ∧
        (∀ (j : Nat) (x y : V) (e : MapEntry), es[j]? = some (x, y) → ents.toList[j]? = some e → VR0 G.ρ G.K w x e.key [] ∧ VR0 G.ρ G.K w y e.val []) := by
      unfold AS.mapOf at hes
      split at hes
      · injection hes with hes; subst hes
        exact ⟨#[], .inl ⟨(VR_nilm hx).1, rfl⟩, rfl, by simp⟩
      · rename_i o
        split at hes
        · rename_i es' hst
          injection hes with hes; subst hes
          obtain ⟨b, hb, hxe, _⟩ := VR_mp hx
          obtain ⟨_, ents, clock, hheap, hl, hrel⟩ := hR.obs o (.map es') b hst hb
          exact ⟨ents, .inr ⟨b, clock, hxe, hheap⟩, by simpa using hl, fun j x y e h1 h2 => hrel j x y e h1 (by simpa using h2)⟩
        · cases hes
      · cases hes
    obtain ⟨ents, hrun, hl, hrel⟩ := hm
    have hf := findNow_spec (kd := kd) hy es ents.toList 0 r hl hrel hr
    have hkey : ∀ q, Instr.findNow (.int kd) y ents.toList 0 = some q → (Instr.findKey kt y ents.toList).run P w = .ok q w := fun q hq => by
      unfold Instr.findKey
      simp [run_underlying hkd, hq]
    rcases hf with ⟨rfl, hf⟩ | ⟨j, u, z, rfl, hf, hz⟩
    · simp only [Option.bind_eq_some_iff] at h
      obtain ⟨zv, hzv, h⟩ := h
      split at h
      · rename_i hval
        injection h with h; subst h
        obtain ⟨_, _, _, z, h4, _, h6⟩ := zeroOf_spec (w := w) (ρ := G.ρ) (K := G.K) hzv
        refine ⟨if ok then .tuple #[z, .bool false] else z, ?_, ?_⟩
        · unfold Instr.lookup
          rcases hrun with ⟨rfl, rfl⟩ | ⟨b, clock, rfl, hheap⟩
          · have := hkey _ hf
            simp at this
            simp [run_underlying ht, run_checkKey hkd, this, h4]
          · have hg : (getObj b).run P w = .ok (.map ents clock) w := by simp [getObj, Sem.run, hheap]
            simp [run_underlying ht, hg, run_checkKey hkd, hkey _ hf, h4]
        · cases ok
          · exact VR_of_VR0 h6
          · exact ⟨[z, .bool false], rfl, [], [], rfl, h6, [], [], rfl, ⟨by simp [V.wf], [_], ⟨[], [], rfl, .bool _, rfl⟩, rfl⟩, rfl⟩
      · cases h
    · simp only at h
      split at h
      · rename_i hval
        injection h with h; subst h
        refine ⟨if ok then .tuple #[z, .bool true] else z, ?_, ?_⟩
        · unfold Instr.lookup
          rcases hrun with ⟨rfl, rfl⟩ | ⟨b, clock, rfl, hheap⟩
          · have := hkey _ hf
            simp at this
            simp [run_underlying ht, run_checkKey hkd, this]
          · have hg : (getObj b).run P w = .ok (.map ents clock) w := by simp [getObj, Sem.run, hheap]
            simp [run_underlying ht, hg, run_checkKey hkd, hkey _ hf]
        · cases ok
          · exact VR_of_VR0 hz.view
          · exact ⟨[z, .bool true], rfl, [], [], rfl, hz.view, [], [], rfl, ⟨by simp [V.wf], [_], ⟨[], [], rfl, .bool _, rfl⟩, rfl⟩, rfl⟩
      · cases h
  · cases h

def mapPut (es : List (V × V)) (k v : V) : Option (Nat × V) → List (V × V)
  | some (i, _) => es.set i (k, v)
  | none => es ++ [(k, v)]

def evMapUpdate (P : Program) (t : TypeId) (S : AS) (m k v : V) : Option AS :=
  match m, k with
  | .mp o, .int kk n =>
    (mapS P t).bind fun q => if intT P q.1 && v.isVal && v.ahead o then
      match S.st[o]? with
      | some (.map es) => (mapFind (.int kk n) es 0).map fun r =>
        { S with st := S.st.set o (.map (mapPut es (.int kk n) v.view r)) }
      | _ => none
    else none
  | _, _ => none

theorem mapFind_key {k : V} : ∀ (es : List (V × V)) (i : Nat) (r : Option (Nat × V)), mapFind k es i = some r → (es ≠ [] → ∃ kd n, k = .int kd n) ∧ ∀ j v, r = some (j, v) → ∃ q, i ≤ j ∧ es[j - i]? = some (k, q)
  | [], i, r, h => by simp only [mapFind, Option.some.injEq] at h; subst h; exact ⟨fun h => absurd rfl h, fun j v h => by cases h⟩
  | (x, y) :: es, i, r, h => by
    simp only [mapFind] at h
    cases hq : keyEq k x with
    | none => simp only [hq] at h; cases h
    | some b =>
      simp only [hq] at h
      have hk : (∃ kd n, k = .int kd n) ∧ (b = true → x = k) := by
        unfold keyEq at hq
        split at hq
        · rename_i k1 a1 k2 a2
          split at hq
          · rename_i hkk
            injection hq with hq
            refine ⟨⟨_, _, rfl⟩, fun hb => ?_⟩
            rw [hb] at hq
            have : a1 = a2 := by simpa using hq
            rw [this, hkk]
          · cases hq
        · cases hq
      refine ⟨fun _ => hk.1, fun j v hr => ?_⟩
      cases b with
      | true =>
        simp only [Option.some.injEq] at h
        subst h
        injection hr with hr; injection hr with h1 h2
        subst h1
        exact ⟨y, Nat.le_refl _, by simp [hk.2 rfl]⟩
      | false =>
        obtain ⟨q, h1, h2⟩ := (mapFind_key es (i + 1) r h).2 j v hr
        refine ⟨q, by omega, ?_⟩
        have : j - i = (j - (i + 1)) + 1 := by omega
        rw [this]; simpa using h2

theorem evMapUpdate_sound {o : Oper} {t : TypeId} {m k x : Operand} {S' : AS} (ho : o.op = .mapUpdate t m k x) (hdst : o.dst = none) (h : evMapUpdate P t S (S.ev m) (S.ev k) (S.ev x) = some S') : OpA P C o S (· = S') := by
  intro a w G next Q hR hn
  unfold evMapUpdate at h
  split at h
  · rename_i oo kk nn hm hkint
    simp only [Option.bind_eq_some_iff] at h
    obtain ⟨⟨kt, et⟩, hq, h⟩ := h
    split at h
    · rename_i hc
      simp only [Bool.and_eq_true] at hc
      obtain ⟨⟨hi, hval⟩, hah⟩ := hc
      split at h
      · rename_i es hst
        simp only [Option.map_eq_some_iff] at h
        obtain ⟨r, hr, rfl⟩ := h
        obtain ⟨kd, hkd⟩ := intT_spec hi
        have ht := mapS_spec hq
        obtain ⟨rm, hmv⟩ := hR.ev m
        rw [hm] at hmv
        obtain ⟨b, hb, hxe, _⟩ := VR_mp hmv
        obtain ⟨rk, hkv⟩ := hR.ev k
        rw [hkint] at hkv
        obtain ⟨hke, _⟩ := VR_int hkv
        have hk0 : VR0 G.ρ G.K w (.int kk nn) (a.eval k) [] := by rw [hke]; exact ⟨by simp [V.wf], [_], ⟨[], [], rfl, .int _ _, rfl⟩, rfl⟩
        obtain ⟨rx, hxv⟩ := hR.ev x
        obtain ⟨_, ents, clock, hheap, hl, hrel⟩ := hR.obs oo (.map es) b hst hb
        have hrel' : ∀ (j : Nat) (x y : V) (e : MapEntry), es[j]? = some (x, y) → ents.toList[j]? = some e → VR0 G.ρ G.K w x e.key [] ∧ VR0 G.ρ G.K w y e.val [] := fun j x y e h1 h2 => hrel j x y e h1 (by simpa using h2)
        have hf := findNow_spec (kd := kd) hkv es ents.toList 0 r (by simpa using hl) hrel' hr
        have hkey : ∀ q, Instr.findNow (.int kd) (a.eval k) ents.toList 0 = some q → (Instr.findKey kt (a.eval k) ents.toList).run P w = .ok q w := fun q hq => by
          unfold Instr.findKey
          simp [run_underlying hkd, hq]
        have hg : (getObj b).run P w = .ok (.map ents clock) w := by simp [getObj, Sem.run, hheap]
        have hs : ∀ ob, (setObj b ob).run P w = .ok () { w with heap := w.heap.setIfInBounds b ob } := fun ob => by simp [setObj, Sem.run, hheap]
        have hbl : b < w.heap.size := (hR.ows b _ (hR.ρOw oo b hb).1).1
        have fin : ∀ (es' : List (V × V)) (ents' : Array MapEntry) (clock' : Nat), (execOp a.eval o).run P w = .ok .skip { w with heap := w.heap.setIfInBounds b (.map ents' clock') } → ents'.size = es'.length →
            (∀ (j : Nat) (x y : V) (e : MapEntry), es'[j]? = some (x, y) → ents'[j]? = some e → VR0 G.ρ G.K w x e.key [] ∧ VR0 G.ρ G.K w y e.val []) → (Ob.map es').ahead oo = true →
            (∀ S'' a' w' G', S'' = { S with st := S.st.set oo (.map es') } → Rel C S'' a' w' G' → next a' w') → o.wp P a w next Q := by
          intro es' ents' clock' hrun hl' hrel2 hah' hn
          unfold Oper.wp
          rw [hrun, Oper.upon_skip, hdst]
          have hw : ∀ x, x ≠ b → ({ w with heap := w.heap.setIfInBounds b (.map ents' clock') } : World).heap[x]? = w.heap[x]? := fun x hx => by simp [Array.getElem?_setIfInBounds_ne (Ne.symm hx)]
          have hst' : ∀ x off, off < G.K x → ({ w with heap := w.heap.setIfInBounds b (.map ents' clock') } : World).cell? ⟨x, off, none⟩ = w.cell? ⟨x, off, none⟩ := fun x off hlt => by
            have : x ≠ b := fun e => by rw [e, (hR.ρOw oo b hb).2] at hlt; omega
            simp only [World.cell?, hw x this]
          have hob : ObR G.ρ G.K { w with heap := w.heap.setIfInBounds b (.map ents' clock') } b (.map es') [] := by
            refine ⟨rfl, ents', clock', by simp [hbl], hl', fun j x y e h1 h2 => ?_⟩
            obtain ⟨g1, g2⟩ := hrel2 j x y e h1 h2
            exact ⟨g1.mono (fun _ _ h => h) hst' (fun _ => Nat.le_refl _) (by simp), g2.mono (fun _ _ h => h) hst' (fun _ => Nat.le_refl _) (by simp)⟩
          have := hR.setOb (w' := { w with heap := w.heap.setIfInBounds b (.map ents' clock') }) hst hb hw (by simp) rfl rfl rfl hob hah' List.nodup_nil (s' := S.s) (R' := G.R) hR.slots hR.slotsNd (fun j x hx => ⟨hx, by simp⟩) (by simp)
          exact hn _ _ _ _ rfl this
        have hxv0 : VR0 G.ρ G.K w (S.ev x).view (a.eval x) [] := VR_val hxv.view (by rw [isVal_view]; exact hval)
        have hahes : ∀ e ∈ es, e.1.ahead oo = true ∧ e.2.ahead oo = true := fun e he => by
          have := List.all_eq_true.1 (show (es.all fun e => e.1.ahead oo && e.2.ahead oo) = true from hR.ahead oo (.map es) hst) e he
          simpa using this
        rcases hf with ⟨rfl, hf⟩ | ⟨j, u, z, rfl, hf, hz⟩
        · refine fin (es ++ [(.int kk nn, (S.ev x).view)]) (ents.push { key := a.eval k, val := a.eval x, born := clock }) (clock + 1) ?_ (by simp [hl]) (fun j p q e h1 h2 => ?_) ?_ hn
          · simp only [execOp, ho]
            unfold Instr.mapUpdate
            simp [hxe, run_underlying ht, hg, run_checkKey hkd, hkey _ hf, hs]
          · rcases Nat.lt_or_ge j es.length with hj | hj
            · rw [List.getElem?_append_left hj] at h1
              rw [Array.getElem?_push_lt (by omega)] at h2
              exact hrel j p q e h1 (by rw [← h2]; simp)
            · have hj' : j = es.length := by
                have := (List.getElem?_eq_some_iff.1 h1).1
                simp at this; omega
              subst hj'
              simp at h1
              obtain ⟨rfl, rfl⟩ := h1
              rw [← hl] at h2
              simp at h2
              subst h2
              exact ⟨hk0, hxv0⟩
          · refine List.all_eq_true.2 fun e he => ?_
            rcases List.mem_append.1 he with he | he
            · simpa using hahes e he
            · simp at he; subst he
              simp [V.ahead, ahead_view, hah]
        · have hjl : j < es.length := by
            obtain ⟨q, _, h2⟩ := (mapFind_key es 0 _ hr).2 j u rfl
            exact (List.getElem?_eq_some_iff.1 h2).1
          have hjk : ∃ q, es[j]? = some (.int kk nn, q) := by
            obtain ⟨q, _, h2⟩ := (mapFind_key es 0 _ hr).2 j u rfl
            exact ⟨q, by simpa using h2⟩
          obtain ⟨q0, hjk⟩ := hjk
          have hje : j < ents.size := by omega
          have hold : ents[j].key = .int kk nn := (VR_int (VR_of_VR0 (hrel j _ _ ents[j] hjk (by simp [hje])).1)).1
          refine fin (es.set j (.int kk nn, (S.ev x).view)) (ents.modify j fun e => { e with key := a.eval k, val := a.eval x }) clock ?_ (by simp [hl]) (fun i p q e h1 h2 => ?_) ?_ hn
          · simp only [execOp, ho]
            unfold Instr.mapUpdate
            have hkeep : (Instr.keyThatStays (((ents[j]?).map (·.key)).getD (a.eval k)) (a.eval k)).run P w = .ok (a.eval k) w := by
              simp only [Array.getElem?_eq_getElem hje, Option.map_some, Option.getD_some, hold, hke]
              simp [Instr.keyThatStays, Instr.sameBits]
            simp [hxe, run_underlying ht, hg, run_checkKey hkd, hkey _ hf, hs, hkeep]
          · by_cases hij : i = j
            · subst hij
              simp [hjl] at h1
              obtain ⟨rfl, rfl⟩ := h1
              rw [Array.getElem?_modify, if_pos rfl, Array.getElem?_eq_getElem hje] at h2
              simp only [Option.map_some, Option.some.injEq] at h2
              subst h2
              exact ⟨hk0, hxv0⟩
            · rw [List.getElem?_set_ne (Ne.symm hij)] at h1
              rw [Array.getElem?_modify, if_neg (Ne.symm hij)] at h2
              exact hrel i p q e h1 h2
          · refine List.all_eq_true.2 fun e he => ?_
            rcases List.mem_or_eq_of_mem_set he with he | he
            · simpa using hahes e he
            · subst he
              simp [V.ahead, ahead_view, hah]
      · cases h
    · cases h
  · cases h

end
end Go.AL
