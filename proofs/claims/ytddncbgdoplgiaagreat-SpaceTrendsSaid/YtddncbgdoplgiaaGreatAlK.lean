import Derived.Test.YtddncbgdoplgiaaGreatAlJ
namespace Go.AL
open Go.RowKit

def notInt (P : Program) (t : TypeId) : Bool :=
  match P.underlying t with
  | some .string => true
  | some (.slice _) => true
  | _ => false
/-- an element type: its cells, its bytes -/
def elS (P : Program) (e : TypeId) : Option (Nat × Nat) :=
  match P.info? e with
  | some i => if (i.zero).isSome ∧ (i.zero.map fun z => z.cells.size) = some i.size then some (i.size, i.bytes) else none
  | none => none

section
variable {P : Program} {C : Ctx} {S : AS} {a : Act} {w w' : World} {G : Gh} {ρ : List Nat} {K : Nat → Nat}

theorem run_app_room {t u ty e : TypeId} {i : TypeInfo} (ht : P.underlying t = some (.slice e)) (hu : notInt P u = true) (hi : P.info? e = some i)
    {x : Value} {n : Nat} {news : List Value} (hlen : (Builtin.lenOf x).run P w = .ok n w) (hfc : (Builtin.firstCells i.size n x).run P w = .ok news.toArray w)
    (g sLen sCap : Nat) (cur : Array Value) (hg : w.heap[g]? = some (.cells cur e (0, 0))) (h1 : ∀ u ∈ news, u.oneCell' = true)
    (hroom : sLen + n ≤ sCap) (hfit : sLen * i.size + news.length ≤ cur.size) :
    (Builtin.append_ #[t, u] ty #[.slice (some ⟨g, 0, none⟩) sLen sCap, x]).run P w =
      .ok (.slice (some ⟨g, 0, none⟩) (sLen + n) sCap) (w.setRow g (cur.toList.take (sLen * i.size) ++ news ++ cur.toList.drop (sLen * i.size + news.length)).toArray) := by
  have hst := run_storeCells_at P g (sLen * i.size) e news 0 cur w hg (by simpa using hfit) h1
  simp only [Nat.add_zero] at hst
  unfold notInt at hu
  split at hu
  · rename_i hd
    simp [Builtin.append_, run_underlying ht, run_underlying hd, sizeOf, typeInfo, hi, hlen, hroom, hfc, Addr.add_lit, hst]
  · rename_i hd
    simp [Builtin.append_, run_underlying ht, run_underlying hd, sizeOf, typeInfo, hi, hlen, hroom, hfc, Addr.add_lit, hst]
  · cases hu

theorem run_app_grow {t u ty e : TypeId} {i : TypeInfo} {z : Value} (ht : P.underlying t = some (.slice e)) (hu : notInt P u = true) (hi : P.info? e = some i) (hz : i.zero = some z)
    {x : Value} {n : Nat} {news : List Value} (hlen : (Builtin.lenOf x).run P w = .ok n w) (hfc : (Builtin.firstCells i.size n x).run P w.drew = .ok news.toArray w.drew)
    {base : Option Addr} {sLen sCap : Nat} {olds : List Value} (hfo : (Builtin.firstCells i.size sLen (.slice base sLen sCap)).run P w.drew = .ok olds.toArray w.drew)
    (hg : sCap < sLen + n) (h63 : sLen + n ≤ 9223372036854775807) (hfit : (sLen + n) * i.bytes ≤ 140737488355328) :
    (Builtin.append_ #[t, u] ty #[.slice base sLen sCap, x]).run P w =
      .ok (.slice (some ⟨w.heap.size, 0, none⟩) (sLen + n) (grownCap w (sLen + n) sCap e))
        (w.drew.alloc (.cells (olds ++ (news ++ (Builtin.zeroCells z.cells (grownCap w (sLen + n) sCap e - (sLen + n))).toList)).toArray e)) := by
  have hn : ¬ (sLen + n ≤ sCap) := by omega
  have h63' : ¬ (9223372036854775807 < ((sLen : Int) + (n : Int))) := by omega
  have h48' : ¬ (281474976710656 < Builtin.nextslicecap (sLen + n) sCap * i.bytes) := by have := growslice_fits (old := sCap) (by omega) hfit; omega
  unfold notInt at hu
  split at hu
  · rename_i hd
    simp [Builtin.append_, run_underlying ht, run_underlying hd, sizeOf, typeInfo, zeroValue, hi, hz, hlen, hn, h63', h48', Question.forced, hfc, hfo, newRow, grownCap]
    congr 2
    apply Array.ext'
    simp
  · rename_i hd
    simp [Builtin.append_, run_underlying ht, run_underlying hd, sizeOf, typeInfo, zeroValue, hi, hz, hlen, hn, h63', h48', Question.forced, hfc, hfo, newRow, grownCap]
    congr 2
    apply Array.ext'
    simp
  · cases hu

theorem elS_spec {e : TypeId} {s : Nat × Nat} (h : elS P e = some s) : ∃ i z, P.info? e = some i ∧ i.zero = some z ∧ z.cells.size = i.size ∧ i.size = s.1 ∧ i.bytes = s.2 := by
  unfold elS at h
  split at h
  · rename_i i hi
    split at h
    · rename_i hc
      injection h with h; subst h
      obtain ⟨z, hz⟩ := Option.isSome_iff_exists.1 hc.1
      refine ⟨i, z, hi, hz, ?_, rfl, rfl⟩
      have := hc.2
      simpa [hz] using this
    · cases h
  · cases h

/-- growing a row in place: the settled part grows, nothing that was settled turns -/
theorem Rel.room (h : Rel C S a w G) {t0 d b : Nat} (hd : d < S.n) (hb : G.R t0 = [b]) (hw : ∀ y, y ≠ b → w'.heap[y]? = w.heap[y]?) (hsz : w'.heap.size = w.heap.size)
    (hos : w'.os = w.os) (htape : w'.tape = w.tape) (hout : w'.output = w.output) {m : Nat} (hm : G.K b ≤ m)
    (hcell : ∀ off, off < G.K b → w'.cell? ⟨b, off, none⟩ = w.cell? ⟨b, off, none⟩)
    {v : V} {x : Value} (hv : VR G.ρ (fun y => if y = b then m else G.K y) w' v x [b]) :
    ∃ G', Rel C { S with s := upd (upd S.s t0 (S.s t0).view) d v } (a.put (some d) x) w' G' := by
  have hbo : G.ow b = some (.slot t0) := h.slotsOw t0 b (by rw [hb]; simp)
  have hbl := (h.ows b _ hbo).1
  have hst : ∀ y off, off < G.K y → w'.cell? ⟨y, off, none⟩ = w.cell? ⟨y, off, none⟩ := fun y off hlt => by
    by_cases hy : y = b
    · subst hy; exact hcell off hlt
    · simp [World.cell?, hw y hy]
  have hKm : ∀ y, G.K y ≤ (if y = b then m else G.K y) := fun y => by
    by_cases hy : y = b
    · subst hy; simpa using hm
    · simp [hy]
  have hoth : ∀ y l, G.ow y = some l → l ≠ .slot t0 → y ≠ b := fun y l hy hl e => by rw [e, hbo] at hy; injection hy with hy; exact hl hy.symm
  have hrow : ∀ y l, G.ow y = some l → l ≠ .slot t0 → w'.heap[y]? = w.heap[y]? ∧ (if y = b then m else G.K y) = G.K y := fun y l hy hl => by
    have := hoth y l hy hl; exact ⟨hw y this, by simp [this]⟩
  refine ⟨{ G with K := fun y => if y = b then m else G.K y, R := fun j => if j = d then [b] else if j = t0 then [] else G.R j, ow := fun y => if y = b then some (.slot d) else G.ow y }, { h with tsz := ?_, slots := fun j => ?_, slotsOw := fun j y hy => ?_, slotsNd := fun j => ?_, obs := fun i ob y hi hy => ?_, obsOw := fun i y hy => ?_, ρOw := fun i y hy => ?_, ows := fun y l hy => ?_, fresh := fun y hy => ?_, prot := fun y hy => ?_, stab := fun y off hlt => ?_, mono := fun y => ?_, size := by rw [hsz]; exact h.size, os := hos.trans h.os, tape := htape.trans h.tape, output := hout.trans h.output }⟩
  · simp [Act.put, h.tsz]
  · simp only [Act.put, upd]
    rw [getD_setIfInBounds (by rw [h.tsz]; exact hd)]
    by_cases hj : j = d
    · simp only [hj, if_true]; exact hv
    · simp only [hj, if_false]
      by_cases hj' : j = t0
      · simp only [hj', if_true]
        exact (h.slots t0).view.mono (fun _ _ h => h) hst hKm (by simp)
      · simp only [hj', if_false]
        refine (h.slots j).mono (fun _ _ h => h) hst hKm fun y hy => hrow y _ (h.slotsOw j y hy) (by simpa using hj')
  · by_cases hj : j = d
    · simp only [hj, if_true, List.mem_singleton] at hy; simp [hy, hj]
    · simp only [hj, if_false] at hy
      by_cases hj' : j = t0
      · simp [hj'] at hy
      · simp only [hj', if_false] at hy
        have := h.slotsOw j y hy
        simp [hoth y _ this (by simpa using hj'), this]
  · by_cases hj : j = d
    · simp [hj]
    · simp only [hj, if_false]
      by_cases hj' : j = t0
      · simp [hj']
      · simp only [hj', if_false]; exact h.slotsNd j
  · have hyb := hoth y _ (h.ρOw i y hy).1 (by simp)
    exact (h.obs i ob y hi hy).mono (fun _ _ h => h) hst hKm (hw y hyb) fun z hz => hrow z _ (h.obsOw i z hz) (by simp)
  · have := h.obsOw i y hy; simp [hoth y _ this (by simp), this]
  · have := h.ρOw i y hy; simp [hoth y _ this.1 (by simp), this]
  · rw [hsz]
    by_cases hyb : y = b
    · subst hyb; exact h.ows y _ hbo
    · simp only [hyb, if_false] at hy; exact h.ows y l hy
  · have : y ≠ b := by rw [hsz] at hy; omega
    simp only [this, if_false]; exact h.fresh y (by omega)
  · obtain ⟨h1, h2, h3⟩ := h.prot y hy
    have hyb : y ≠ b := fun e => (h.ows b _ hbo).2 (e ▸ hy)
    exact ⟨h1, (hw y hyb).trans h2, by simp [hyb, h3]⟩
  · exact (hst y off (Nat.lt_of_lt_of_le hlt (h.mono y))).trans (h.stab y off hlt)
  · exact Nat.le_trans (h.mono y) (hKm y)

/-! ### append -/
def evAppend (P : Program) (t u : TypeId) (S : AS) (d : Nat) (s x : Operand) : Option AS :=
  match S.ev s, S.src (S.ev x) with
  | .own e k xs, some ys =>
    (slcS P t).bind fun e' => (elS P e').bind fun q =>
      if notInt P u = true ∧ 0 < q.1 ∧ ((e = e' ∧ k = q.1) ∨ (k = 0 ∧ xs = [])) ∧ V.allSize q.1 ys ∧ (xs.length + ys.length) * q.2 ≤ 140737488355328 ∧ xs.length + ys.length ≤ 9223372036854775807 then
        match s with
        | .tmp t0 => if d ≠ t0 then some { S with s := upd (upd S.s t0 (S.s t0).view) d (.own e' q.1 (xs ++ ys)) } else none
        | _ => some (S.put d (.own e' q.1 (xs ++ ys)))
      else none
  | _, _ => none

theorem evAppend_sound {o : Oper} {t u : TypeId} {d : Nat} {s x : Operand} {S' : AS} (ho : o.op = .call { callee := .builtin .append, args := #[s, x], argTypes := #[t, u] }) (hdst : o.dst = some d) (hd : d < S.n)
    (h : evAppend P t u S d s x = some S') : OpA P C o S (· = S') := by
  intro a w G next Q hR hn
  unfold evAppend at h
  split at h
  · rename_i _ _ e k xs ys hs hx
    simp only [Option.bind_eq_some_iff] at h
    obtain ⟨e', he', q, hq, h⟩ := h
    split at h
    · rename_i hc
      obtain ⟨hu, hq0, hek, hys, hby, h63⟩ := hc
      obtain ⟨i, z, hi, hz, hzs, hi1, hi2⟩ := elS_spec hq
      have ht := slcS_spec he'
      obtain ⟨rs, hvs⟩ := hR.ev s
      obtain ⟨rx, hvx⟩ := hR.ev x
      rw [hs] at hvs
      obtain ⟨hwy, news, hnews, hlen, hfc⟩ := src_spec (k := q.1) hR hvx hx hys
      have hfcw := hfc w (fun _ => rfl)
      have hfcd := hfc w.drew (fun _ => rfl)
      rw [← hi1] at hfcw hfcd
      have hnl : news.length = ys.length * q.1 := by rw [hnews.length, flats_length _ hwy, sizes_const hys]
      have fin : ∀ S'' v w' G', (Builtin.append_ #[t, u] o.type #[a.eval s, a.eval x]).run P w = .ok v w' → Rel C S'' (a.put (some d) v) w' G' → S'' = S' → o.wp P a w next Q := by
        rintro S'' v w' G' h1 h2 rfl
        unfold Oper.wp
        have : (execOp a.eval o).run P w = .ok (.value v) w' := by simp [execOp, ho, resolve, invoke, builtin, h1]
        rw [this, Oper.upon_value, hdst]
        exact hn _ _ _ _ rfl h2
      -- where the row is new
      have grow : ∀ (Sg : AS) (Gg : Gh), Sg.n = S.n → Rel C Sg a w Gg → Gg.K = G.K → Gg.ρ = G.ρ → ∀ base sLen sCap olds, a.eval s = .slice base sLen sCap → sLen = xs.length → V.wfs xs → (∀ x ∈ xs, x.size = q.1) →
          CRs G.ρ G.K w (V.flats xs) olds [] → (Builtin.firstCells i.size sLen (.slice base sLen sCap)).run P w.drew = .ok olds.toArray w.drew → sCap < sLen + ys.length →
          ∃ v w' G', (Builtin.append_ #[t, u] o.type #[a.eval s, a.eval x]).run P w = .ok v w' ∧ Rel C (Sg.put d (.own e' q.1 (xs ++ ys))) (a.put (some d) v) w' G' := by
        intro Sg Gg hSn hRg hKg hρg base sLen sCap olds hes hsl hwx hkx hold hfo hgr
        subst hsl
        have hrun := run_app_grow (P := P) (w := w) (ty := o.type) ht hu hi hz hlen hfcd hfo hgr h63 (by rw [hi2]; exact hby)
        rw [hes]
        have hge := grownCap_ge w (xs.length + ys.length) sCap e'
        have hcm := grownCap_le_maxLen w (xs.length + ys.length) sCap e' (by simpa [maxLen] using h63)
        have hlo : olds.length = xs.length * q.1 := by rw [hold.length, flats_length _ hwx, sizes_const hkx]
        have hwxy : V.wfs (xs ++ ys) := wfs_append.2 ⟨hwx, hwy⟩
        have hkxy : ∀ y ∈ xs ++ ys, y.size = q.1 := fun y hy => (List.mem_append.1 hy).elim (hkx y) (hys y)
        have hfl : (V.flats (xs ++ ys)).length = (xs.length + ys.length) * q.1 := by rw [flats_length _ hwxy, sizes_const hkxy]; simp
        have hcs : CRs G.ρ G.K w (V.flats (xs ++ ys)) (olds ++ news) [] := by rw [flats_append]; exact hold.append hnews
        have hnew := heap_alloc_new w.drew (.cells (olds ++ (news ++ (Builtin.zeroCells z.cells (grownCap w (xs.length + ys.length) sCap e' - (xs.length + ys.length))).toList)).toArray e')
        have hKK : ∀ b, G.K b ≤ (if b = w.heap.size then (xs.length + ys.length) * q.1 else G.K b) := fun b => by
          by_cases hb : b = w.heap.size
          · rw [hb, hR.fresh _ (Nat.le_refl _)]; omega
          · simp [hb]
        have hcold : ∀ b off, off < G.K b → (w.drew.alloc (.cells (olds ++ (news ++ (Builtin.zeroCells z.cells (grownCap w (xs.length + ys.length) sCap e' - (xs.length + ys.length))).toList)).toArray e')).cell? ⟨b, off, none⟩ = w.cell? ⟨b, off, none⟩ := fun b off hlt => by
          rcases Nat.lt_or_ge b w.heap.size with hb | hb
          · simp only [World.cell?]; rw [Below.heap_alloc _ _ _ (by simpa using hb)]; rfl
          · rw [hR.fresh b hb] at hlt; omega
        have hv := CR_own_new (ρ := G.ρ) (K := G.K) (w := w) (w' := w.drew.alloc (.cells (olds ++ (news ++ (Builtin.zeroCells z.cells (grownCap w (xs.length + ys.length) sCap e' - (xs.length + ys.length))).toList)).toArray e'))
          (e := e') (k := q.1) (xs := xs ++ ys) (cs := olds ++ news) (K' := fun b => if b = w.heap.size then (xs.length + ys.length) * q.1 else G.K b) hKK hq0 hwxy hkxy hcs
          (Builtin.zeroCells z.cells (grownCap w (xs.length + ys.length) sCap e' - (xs.length + ys.length))).toList (c := grownCap w (xs.length + ys.length) sCap e')
          (by
            simp only [List.length_append, hlo, hnl, Array.length_toList, size_zeroCells, hzs, hi1]
            rw [← Nat.add_mul, ← Nat.add_mul]; congr 1; omega) hcm (by simp [hfl]) hcold (by simpa [List.append_assoc] using hnew)
        have hxy : (xs ++ ys).length = xs.length + ys.length := by simp
        rw [hxy] at hv
        obtain ⟨G', hG⟩ := hRg.newRow (K' := fun b => if b = w.heap.size then (xs.length + ys.length) * q.1 else G.K b) (w' := w.drew.alloc (.cells (olds ++ (news ++ (Builtin.zeroCells z.cells (grownCap w (xs.length + ys.length) sCap e' - (xs.length + ys.length))).toList)).toArray e'))
          (d := d) (b := w.heap.size) (by simp) (fun b hb => Below.heap_alloc _ _ _ (by simpa using hb)) (fun b hb => by rw [hKg]; simp [Nat.ne_of_lt hb]) (fun b hb => by
            have hb' : w.heap.size + 1 ≤ b := by simpa using hb
            have : b ≠ w.heap.size := by omega
            simp only [this, if_false]; exact hR.fresh b (by omega)) rfl rfl rfl (by rw [hSn]; exact hd) (Nat.le_refl _) (by simp) (by rw [hρg]; exact VR.of_cell hv)
        exact ⟨_, _, G', hrun, hG⟩
      -- nil, and nothing is appended
      have nothing : ∀ (Sg : AS) (Gg : Gh), Sg.n = S.n → Rel C Sg a w Gg → a.eval s = .slice none 0 0 → xs = [] → ys = [] →
          ∃ v w' G', (Builtin.append_ #[t, u] o.type #[a.eval s, a.eval x]).run P w = .ok v w' ∧ Rel C (Sg.put d (.own e' q.1 (xs ++ ys))) (a.put (some d) v) w' G' := by
        rintro Sg Gg hSn hRg hes rfl rfl
        have hnn : news = [] := List.eq_nil_of_length_eq_zero (by simpa using hnl)
        subst hnn
        have hrun : (Builtin.append_ #[t, u] o.type #[.slice none 0 0, a.eval x]).run P w = .ok (.slice none 0 0) w := by
          have hlen0 : (Builtin.lenOf (a.eval x)).run P w = .ok 0 w := hlen
          have hfc0 : (Builtin.firstCells i.size 0 (a.eval x)).run P w = .ok #[] w := hfcw
          unfold notInt at hu
          split at hu
          · rename_i hdd
            simp [Builtin.append_, run_underlying ht, run_underlying hdd, sizeOf, typeInfo, hi, hlen0, hfc0]
          · rename_i hdd
            simp [Builtin.append_, run_underlying ht, run_underlying hdd, sizeOf, typeInfo, hi, hlen0, hfc0]
          · cases hu
        exact ⟨_, _, _, by rw [hes]; exact hrun, hRg.put0 (S := Sg) (by rw [hSn]; exact hd) (VR.of_cell (.own0 e' q.1))⟩
      split at h
      · rename_i t0
        split at h
        · injection h with h
          have hvt := hR.slots t0
          have hst0 : S.s t0 = .own e k xs := hs
          rw [hst0] at hvt
          have hcell := hvt.cell rfl rfl (by simp) (by simp)
          have hes : a.eval (.tmp t0) = a.tmps.getD t0 undef := rfl
          have hun := hR.unown t0
          have fin' : (∃ v w' G', (Builtin.append_ #[t, u] o.type #[a.eval (.tmp t0), a.eval x]).run P w = .ok v w' ∧ Rel C { S with s := upd (upd S.s t0 (S.s t0).view) d (.own e' q.1 (xs ++ ys)) } (a.put (some d) v) w' G') → o.wp P a w next Q := by
            rintro ⟨v, w', G', h1, h2⟩
            exact fin _ v w' G' h1 h2 h
          generalize hval : a.tmps.getD t0 undef = val at hcell
          generalize hrows : G.R t0 = rows at hcell
          cases hcell with
          | own0 =>
            by_cases hy : ys = []
            · exact fin' (nothing (S.put t0 (S.s t0).view) _ rfl hun (by rw [hes, hval]) rfl hy)
            · have hyl : 0 < ys.length := List.length_pos_iff.2 hy
              refine fin' (grow (S.put t0 (S.s t0).view) _ rfl hun rfl rfl none 0 0 [] (by rw [hes, hval]) rfl (by simp [V.wfs]) (by simp) rfl (by simp [Builtin.firstCells]) (by omega))
          | own _ b c _ vs cells _ h0 hcc hcm hwx hkx hcr hb hcells hcap hKb =>
            have hkq : k = q.1 ∧ e = e' := by
              rcases hek with ⟨h1, h2⟩ | ⟨h1, _⟩
              · exact ⟨h2, h1⟩
              · omega
            obtain ⟨rfl, rfl⟩ := hkq
            have hflx : (V.flats xs).length = xs.length * q.1 := by rw [flats_length _ hwx, sizes_const hkx]
            have holds := CRs_of_fn hcr
            by_cases hroom : xs.length + ys.length ≤ c
            · have hfit : xs.length * i.size + news.length ≤ cells.size := by
                rw [hi1, hnl, ← Nat.add_mul, hcap]; exact Nat.mul_le_mul_right _ hroom
              have hrun := run_app_room (P := P) (w := w) (ty := o.type) ht hu hi hlen hfcw b xs.length c cells hb hnews.oneCell hroom hfit
              rw [← hval] at hrun
              rw [hi1] at hrun
              generalize hnc : (cells.toList.take (xs.length * q.1) ++ news ++ cells.toList.drop (xs.length * q.1 + news.length)).toArray = nc at hrun
              have hrow := setRow_heap w b cells nc e (0, 0) hb
              have hoth : ∀ y, y ≠ b → (w.setRow b nc).heap[y]? = w.heap[y]? := fun y hy => by
                simp only [World.setRow, Array.getElem?_modify]; rw [if_neg (Ne.symm hy)]
              have hwxy : V.wfs (xs ++ ys) := wfs_append.2 ⟨hwx, hwy⟩
              have hkxy : ∀ y ∈ xs ++ ys, y.size = q.1 := fun y hy => (List.mem_append.1 hy).elim (hkx y) (hys y)
              have hfl : (V.flats (xs ++ ys)).length = (xs.length + ys.length) * q.1 := by rw [flats_length _ hwxy, sizes_const hkxy]; simp
              have hcl : cells.toList.length = c * q.1 := by simpa using hcap
              have hle : (xs.length + ys.length) * q.1 ≤ c * q.1 := Nat.mul_le_mul_right _ hroom
              have hle2 : xs.length * q.1 + ys.length * q.1 ≤ c * q.1 := by rw [← Nat.add_mul]; exact hle
              have hnsz : nc.size = c * q.1 := by
                rw [← hnc]
                simp only [List.size_toArray, List.length_append, List.length_take, List.length_drop, hcl, hnl]
                omega
              have hnget : ∀ j, j < (xs.length + ys.length) * q.1 → nc[j]? = (((List.range (V.flats xs).length).map vs) ++ news)[j]? := fun j hj => by
                rw [← hnc]
                simp only [List.getElem?_toArray]
                rw [Nat.add_mul] at hj
                rw [List.append_assoc]
                have htl : (cells.toList.take (xs.length * q.1)).length = xs.length * q.1 := by
                  rw [List.length_take, hcl]; exact Nat.min_eq_left (by omega)
                by_cases hj1 : j < xs.length * q.1
                · rw [List.getElem?_append_left (by rw [htl]; exact hj1), List.getElem?_take_of_lt hj1, List.getElem?_append_left (by simp [hflx]; omega)]
                  have := hcells j (by omega)
                  simp only [Array.getElem?_toList, this]
                  have hj2 : j < (V.flats xs).length := by omega
                  simp [hj2]
                · have hll : ((List.range (V.flats xs).length).map vs).length = xs.length * q.1 := by rw [List.length_map, List.length_range, hflx]
                  have hjl : j - xs.length * q.1 < news.length := by rw [hnl]; omega
                  rw [List.getElem?_append_right (by rw [htl]; omega), htl, List.getElem?_append_left hjl, List.getElem?_append_right (by rw [hll]; omega), hll]
              have hcold : ∀ off, off < G.K b → (w.setRow b nc).cell? ⟨b, off, none⟩ = w.cell? ⟨b, off, none⟩ := fun off hlt => by
                rw [hKb] at hlt
                rw [cell?_of_cells hrow, cell?_of_cells hb, hnget off (by rw [Nat.add_mul]; omega), hcells off hlt, List.getElem?_append_left (by simpa using hlt)]
                simp [hlt]
              have hstall : ∀ y off, off < G.K y → (w.setRow b nc).cell? ⟨y, off, none⟩ = w.cell? ⟨y, off, none⟩ := fun y off hlt => by
                by_cases hy : y = b
                · subst hy; exact hcold off hlt
                · simp only [World.cell?, hoth y hy]
              have hKm : ∀ y, G.K y ≤ (if y = b then (xs.length + ys.length) * q.1 else G.K y) := fun y => by
                by_cases hy : y = b
                · subst hy; simp only [if_true, hKb, hflx, Nat.add_mul]; omega
                · simp [hy]
              have hall := holds.append hnews
              rw [← flats_append] at hall
              obtain ⟨hal, hav⟩ := CRs.nil_iff.1 (by simpa using hall)
              have hv : CR G.ρ (fun y => if y = b then (xs.length + ys.length) * q.1 else G.K y) (w.setRow b nc) (.own e q.1 (xs ++ ys)) (.slice (some ⟨b, 0, none⟩) (xs ++ ys).length c) [b] := by
                refine .own (xs ++ ys) b c q.1 (fun j => (((List.range (V.flats xs).length).map vs) ++ news).getD j undef) nc e h0 (by simpa using hroom) hcm hwxy hkxy (fun j y hy => ?_) hrow (fun j hj => ?_) hnsz (by simp [hfl])
                · exact (hav j y hy).mono (fun _ _ h => h) hstall hKm (by simp)
                · rw [hnget j (by omega)]
                  have : j < (((List.range (V.flats xs).length).map vs) ++ news).length := by rw [hal]; exact hj
                  simp only [List.getD_eq_getElem?_getD, List.getElem?_eq_getElem this, Option.getD_some]
              have hxy : (xs ++ ys).length = xs.length + ys.length := by simp
              rw [hxy] at hv
              obtain ⟨G', hG⟩ := hR.room (d := d) hd hrows hoth (by simp) rfl rfl rfl (by rw [hKb, hflx, Nat.add_mul]; omega) hcold (VR.of_cell hv)
              exact fin' ⟨_, _, G', by rw [hes]; exact hrun, hG⟩
            · refine fin' (grow (S.put t0 (S.s t0).view) _ rfl hun rfl rfl (some ⟨b, 0, none⟩) xs.length c _ (by rw [hes, hval]) rfl hwx hkx holds ?_ (by omega))
              refine run_firstCells_some (P := P) w.drew i.size xs.length ⟨b, 0, none⟩ xs.length c _ (by simp [hflx, hi1]) fun j c' hj => ?_
              have hlt : j < (V.flats xs).length := by have := (List.getElem?_eq_some_iff.1 hj).1; simpa using this
              have hc' : c' = vs j := by have := (List.getElem?_eq_some_iff.1 hj).2; simpa using this.symm
              rw [addr_add, hc', Nat.zero_add]
              have : w.drew.cell? ⟨b, j, none⟩ = cells[j]? := cell?_of_cells (w := w.drew) (by exact hb)
              rw [this]; exact hcells j hlt
        · cases h
      · rename_i hnt
        injection h with h
        have hvt := const_rows hR s (fun t e => hnt t e)
        rw [hs] at hvt
        have hcell := hvt.cell rfl rfl (by simp) (by simp)
        have fin' : (∃ v w' G', (Builtin.append_ #[t, u] o.type #[a.eval s, a.eval x]).run P w = .ok v w' ∧ Rel C (S.put d (.own e' q.1 (xs ++ ys))) (a.put (some d) v) w' G') → o.wp P a w next Q := by
          rintro ⟨v, w', G', h1, h2⟩
          exact fin _ v w' G' h1 h2 h
        generalize hval : a.eval s = val at hcell
        generalize hrr : ([] : List Nat) = rr at hcell
        cases hcell with
        | own0 =>
          by_cases hy : ys = []
          · exact fin' (nothing S _ rfl hR hval rfl hy)
          · have hyl : 0 < ys.length := List.length_pos_iff.2 hy
            exact fin' (grow S _ rfl hR rfl rfl none 0 0 [] hval rfl (by simp [V.wfs]) (by simp) rfl (by simp [Builtin.firstCells]) (by omega))
        | own => cases hrr
    · cases h
  · cases h

end
end Go.AL
