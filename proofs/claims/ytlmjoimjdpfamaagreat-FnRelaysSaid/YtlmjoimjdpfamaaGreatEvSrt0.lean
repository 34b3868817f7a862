/- slices.SortFunc on a row of the state's own, in the evaluator's words. -/
import Derived.Test.YtlmjoimjdpfamaaGreatEvBD
import Derived.Test.YtlmjoimjdpfamaaGreatEvDrawn
import Derived.Shelf.SlSortCmp.NoneTotal
set_option linter.unusedVariables false
set_option linter.unusedSimpArgs false
set_option linter.constructorNameAsVariable false
namespace Go.Proofs.YtlmjoimjdpfamaaGreat.Ev
open Go.Sort
variable {P : Program} {base : Nat} {M : Nat → Prop} {ρ : Rho} {w : World}
theorem srt_heap (w : World) (g : Nat) (F : Array Value) (m : Nat) (os : Array Obj) {cur : Array Value} {ty : TypeId} {fr : Nat × Nat} (h : w.heap[g]? = some (.cells cur ty fr)) :
    (grow (putRow _root_.id (Sort.ahead w m) g 0 F) os).heap[g]? = some (.cells (putCells _root_.id 0 F cur) ty fr) ∧ ∀ k, k < w.heap.size → k ≠ g → (grow (putRow _root_.id (Sort.ahead w m) g 0 F) os).heap[k]? = w.heap[k]? := by
  have hg : g < w.heap.size := (Array.getElem?_eq_some_iff.1 h).1
  constructor
  · show ((w.heap.modify g (onCells (putCells _root_.id 0 F))) ++ os)[g]? = _
    rw [Array.getElem?_append_left (by simpa using hg), Array.getElem?_modify, if_pos rfl, h]
    rfl
  · intro k hk hne
    show ((w.heap.modify g (onCells (putCells _root_.id 0 F))) ++ os)[k]? = _
    rw [Array.getElem?_append_left (by simpa using hk), Array.getElem?_modify, if_neg (fun e => hne e.symm)]
theorem srt_cells (F cur : Array Value) (x : Nat) : (putCells _root_.id 0 F cur)[x]? = if x < F.size then (if x < cur.size then some F[x]! else none) else cur[x]? := by
  unfold putCells
  rw [Array.getElem?_mapIdx]
  by_cases hc : x < cur.size
  · rw [Array.getElem?_eq_getElem hc]
    simp only [Option.map_some, Nat.zero_le, true_and, Nat.zero_add, Nat.sub_zero, _root_.id]
    by_cases hF : x < F.size
    · simp [hF, hc]
    · simp [hF]
  · rw [Array.getElem?_eq_none (by omega)]
    simp only [Option.map_none]
    by_cases hF : x < F.size
    · simp [hF, hc]
    · simp [hF]
theorem get_bang {F : Array Value} {x : Nat} {u : Value} (h : F[x]? = some u) : F[x]! = u := by
  obtain ⟨h1, h2⟩ := Array.getElem?_eq_some_iff.1 h
  rw [getElem!_pos F x h1]
  exact h2
/-- A row whose first elements hold others. -/
theorem row_hr {H : Hp} (hH : HR base M ρ H w) {i0 : Nat} {b : Blk} (hb : H[i0]? = some (some b)) {L : Loc} (hL : ρ[i0]? = some (some L)) (hro : b.ro = false) (hkd : b.kd = 1) {n : Nat} (hn : n ≤ b.es.length) {xs : List AV} (hxl : xs.length = n)
    {F : Array Value} (hF : F.size = n * b.k) (hx : ∀ (i : Nat) (e : AV) (j : Nat) (c : AV), xs[i]? = some e → e.cells[j]? = some c → ∃ u, F[i * b.k + j]? = some u ∧ u.oneCell' = true ∧ c = .v u)
    (hek : ∀ (i : Nat) (e : AV), xs[i]? = some e → e.cells.length = b.k) (m : Nat) (os : Array Obj) :
    HR base M ρ (H.set i0 (some { b with es := xs ++ b.es.drop n })) (grow (putRow _root_.id (Sort.ahead w m) L.g 0 F) os) ∧
      Ext M ρ H w M ρ (H.set i0 (some { b with es := xs ++ b.es.drop n })) (grow (putRow _root_.id (Sort.ahead w m) L.g 0 F) os) := by
  have q := hH.blk i0 b L hb hL
  obtain ⟨cur, fr, a1, a2, a3, a4⟩ := q.cur
  obtain ⟨c1, c3⟩ := srt_heap w L.g F m os a1
  have hcs : (putCells _root_.id 0 F cur).size = cur.size := by simp [putCells]
  have hsz : (grow (putRow _root_.id (Sort.ahead w m) L.g 0 F) os).heap.size = w.heap.size + os.size := by
    show ((w.heap.modify L.g (onCells (putCells _root_.id 0 F))) ++ os).size = _
    simp
  generalize hW : grow (putRow _root_.id (Sort.ahead w m) L.g 0 F) os = W' at c1 c3 hsz
  have e1 : W'.os = w.os := by rw [← hW]; rfl
  have e2 : W'.tape = w.tape := by rw [← hW]; rfl
  have e3 : W'.output = w.output := by rw [← hW]; rfl
  have hnM := hH.notM (⟨i0, b, L, hb, hro, hL, rfl⟩ : Wr ρ H L.g)
  have hM : ∀ g, M g → W'.heap[g]? = w.heap[g]? := fun g hg => c3 g (hH.mlt g hg) (fun e => hnM (e ▸ hg))
  have hnk : n * b.k ≤ cur.size := by rw [a2]; exact Nat.mul_le_mul_right _ (Nat.le_trans hn q.len)
  have hset : ∀ id', (H.set i0 (some { b with es := xs ++ b.es.drop n }))[id']? = if i0 = id' then some (some { b with es := xs ++ b.es.drop n }) else H[id']? := by
    intro id'
    rw [List.getElem?_set]
    by_cases h : i0 = id'
    · rw [if_pos h, if_pos h, if_pos (List.getElem?_eq_some_iff.1 hb).1]
    · rw [if_neg h, if_neg h]
  have hes : ∀ (x : Nat) (e : AV), (xs ++ b.es.drop n)[x]? = some e → (x < n ∧ xs[x]? = some e) ∨ (n ≤ x ∧ b.es[x]? = some e) := by
    intro x e he
    by_cases hxn : x < n
    · rw [List.getElem?_append_left (by omega)] at he
      exact .inl ⟨hxn, he⟩
    · rw [List.getElem?_append_right (by omega), List.getElem?_drop, hxl, show n + (x - n) = x by omega] at he
      exact .inr ⟨by omega, he⟩
  refine ⟨{ len := by simp [hH.len], dead := fun id' => ?_, blk := fun id' b' L' hb' hL' => ?_, inj := hH.inj, mlt := fun g hg => by have := hH.mlt g hg; omega },
    ⟨e1, e2, e3, by omega, fun g hg hn' => c3 g hg (fun e => hn' (e ▸ ⟨i0, b, L, hb, hro, hL, rfl⟩)), fun _ h => h, fun _ h => .inl h, fun g hg => ?_, Rle.refl _⟩⟩
  · rw [hset]
    by_cases h : i0 = id'
    · subst h
      rw [if_pos rfl, hL]
      simp
    · rw [if_neg h]; exact hH.dead id'
  · rw [hset] at hb'
    by_cases h : i0 = id'
    · subst h
      rw [if_pos rfl] at hb'
      cases hb'
      rw [hL] at hL'
      cases hL'
      refine { lo := q.lo, kk := q.kk, kp := q.kp, ro := q.ro, capm := q.capm, len := by have := q.len; simp only [List.length_append, List.length_drop]; omega, ek := fun x y hy => ?_, cur := ⟨_, fr, c1, by rw [hcs, a2], ?_, fun x y z c hy hc => ?_⟩ }
      · rcases a3 with a3 | a3
        · exact .inl a3
        · exact .inr (by rw [hcs]; exact a3)
      · simp only at hy ⊢
        rw [srt_cells, hF]
        rcases hes x y hy with ⟨h1, h2⟩ | ⟨h1, h2⟩
        · obtain ⟨u, d1, d2, rfl⟩ := hx x y z c h2 hc
          have hz : z < b.k := by rw [← hek x y h2]; exact (List.getElem?_eq_some_iff.1 hc).1
          have hlt : x * b.k + z < n * b.k := by
            have := Nat.mul_le_mul_right b.k (show x + 1 ≤ n from h1)
            rw [Nat.add_mul, Nat.one_mul] at this
            omega
          rw [if_pos hlt, if_pos (by omega), get_bang d1]
          exact ⟨u, rfl, d2, .v⟩
        · have hge : ¬ x * b.k + z < n * b.k := by
            have := Nat.mul_le_mul_right b.k h1
            omega
          rw [if_neg hge]
          obtain ⟨u, d1, d2, d3⟩ := a4 x y z c h2 hc
          exact ⟨u, d1, d2, d3.mono (fun _ h => h) hM (Rle.refl _)⟩
      · simp only at hy
        rcases hes x y hy with ⟨h1, h2⟩ | ⟨h1, h2⟩
        · exact hek x y h2
        · exact q.ek x y h2
    · rw [if_neg h] at hb'
      have q' := hH.blk id' b' L' hb' hL'
      obtain ⟨cur2, fr2, b1, b2, b3, b4⟩ := q'.cur
      exact { lo := q'.lo, kk := q'.kk, kp := q'.kp, ro := q'.ro, capm := q'.capm, len := q'.len, ek := q'.ek,
              cur := ⟨cur2, fr2, by rw [c3 _ q'.lt (hH.inj id' i0 L' L hL' hL (fun e => h e.symm))]; exact b1, b2, b3, fun x y z c hx hc =>
                let ⟨u, d1, d2, d3⟩ := b4 x y z c hx hc; ⟨u, d1, d2, d3.mono (fun _ h => h) hM (Rle.refl _)⟩⟩ }
  · obtain ⟨id', b', L', f1, f2, f3, rfl⟩ := hg
    rw [hset] at f1
    by_cases h : i0 = id'
    · subst h
      rw [if_pos rfl] at f1
      cases f1
      exact .inl ⟨i0, b, L', hb, hro, f3, rfl⟩
    · rw [if_neg h] at f1
      exact .inl ⟨id', b', L', f1, f2, f3, rfl⟩
/-- What a row of values holds. -/
theorem row_holds {H : Hp} (hH : HR base M ρ H w) {i0 : Nat} {b : Blk} (hb : H[i0]? = some (some b)) {L : Loc} (hL : ρ[i0]? = some (some L)) (hkd : b.kd = 1) {n : Nat} (hn : n ≤ b.es.length) {F : Array Value} (hF : F.size = n * b.k)
    (hx : ∀ (i : Nat) (e : AV) (j : Nat) (c : AV), i < n → b.es[i]? = some e → e.cells[j]? = some c → ∃ u, F[i * b.k + j]? = some u ∧ c = .v u) : Holds _root_.id w L.g 0 F := by
  have q := hH.blk i0 b L hb hL
  obtain ⟨cur, fr, a1, a2, a3, a4⟩ := q.cur
  have hfr : fr = (0, 0) := by
    rcases a3 with a3 | a3
    · exact a3
    · rw [hkd] at a3; exact absurd a3.1 (by decide)
  subst hfr
  intro j hj
  rw [hF] at hj
  have hk := q.kp
  have hi : j / b.k < n := by rw [Nat.div_lt_iff_lt_mul hk]; exact hj
  have hz : j % b.k < b.k := Nat.mod_lt _ hk
  have he : b.es[j / b.k]? = some (b.es[j / b.k]'(by omega)) := List.getElem?_eq_getElem (by omega)
  have hl := q.ek _ _ he
  have hc : ((b.es[j / b.k]'(by omega)).cells)[j % b.k]? = some (((b.es[j / b.k]'(by omega)).cells)[j % b.k]'(by omega)) := List.getElem?_eq_getElem (by omega)
  obtain ⟨u, d1, d2, d3⟩ := a4 _ _ _ _ he hc
  obtain ⟨v, f1, f2⟩ := hx _ _ _ _ hi he hc
  rw [f2] at d3
  have hv := vr_v d3
  have hdm : j / b.k * b.k + j % b.k = j := by rw [Nat.mul_comm]; exact Nat.div_add_mod j b.k
  rw [hdm] at d1 f1
  constructor
  · rw [Nat.zero_add, cell_of_row w L.g _ cur b.ty _ a1, d1, get_bang f1]
    show some u = some v
    rw [hv]
  · simp only [World.frozen?, a1]
    simp
/-- The library's sort, in plain words. -/
def srtL {α : Type} [Inhabited α] (cf : α → α → Int) (l : List α) : List α := (pdq (ltOf cf) l.toArray 0 l.length (Lib.bitLen l.length) true true).toList
theorem srtL_sorts {α : Type} [Inhabited α] (cf : α → α → Int) (hO : SWO (ltOf cf)) (l : List α) : (srtL cf l).Perm l ∧ (srtL cf l).Pairwise fun x y => ltOf cf y x = false := by
  obtain ⟨h1, h2⟩ := pdq_sorts (ltOf cf) hO l.toArray 0 l.length (Lib.bitLen l.length) true true (Nat.zero_le _) (by simp) (Or.inl rfl)
  obtain ⟨hs, _, hp⟩ := h1
  unfold srtL
  generalize pdq (ltOf cf) l.toArray 0 l.length (Lib.bitLen l.length) true true = d' at h2 hs hp
  have e1 : d'.extract 0 l.length = d' := by rw [show l.length = d'.size by simpa using hs.symm]; exact Array.extract_size
  have e2 : l.toArray.extract 0 l.length = l.toArray := by rw [show l.length = l.toArray.size by simp]; exact Array.extract_size
  rw [e1, e2] at hp
  refine ⟨by simpa using hp, ?_⟩
  rw [List.pairwise_iff_getElem]
  intro i j hi hj hij
  have hi' : i < d'.size := by simpa using hi
  have hj' : j < d'.size := by simpa using hj
  have hsz : d'.size = l.length := by simpa using hs
  have := h2 i j (Nat.zero_le _) hij (by omega)
  rw [getElem!_pos d' i hi', getElem!_pos d' j hj'] at this
  simpa using this
theorem srtL_len {α : Type} [Inhabited α] (cf : α → α → Int) (hO : SWO (ltOf cf)) (l : List α) : (srtL cf l).length = l.length := (srtL_sorts cf hO l).1.length_eq
/-- Elements of several cells. -/
def aggE {α : Type} (enc : α → List Value) (x : α) : AV := .agg ((enc x).map .v)
theorem flat_get {α : Type} [Inhabited α] (enc : α → List Value) {k : Nat} (hk : ∀ x, (enc x).length = k) (d : List α) {i j : Nat} {x : α} {c : AV} (hi : d[i]? = some x) (hc : (aggE enc x).cells[j]? = some c) :
    ∃ u, (Sort.flatK enc k d.toArray)[i * k + j]? = some u ∧ u ∈ enc x ∧ c = .v u := by
  have hc' : ((enc x).map AV.v)[j]? = some c := hc
  rw [List.getElem?_map] at hc'
  cases hu : (enc x)[j]? with
  | none => rw [hu] at hc'; cases hc'
  | some u =>
    rw [hu] at hc'
    have hj : j < k := by rw [← hk x]; exact (List.getElem?_eq_some_iff.1 hu).1
    have hil : i < d.length := (List.getElem?_eq_some_iff.1 hi).1
    have hlt : i * k + j < d.toArray.size * k := by
      have := Nat.mul_le_mul_right k (show i + 1 ≤ d.length from hil)
      rw [Nat.add_mul, Nat.one_mul] at this
      simp only [List.size_toArray]
      omega
    have h1 := get_flatK enc k d.toArray (i * k + j) hlt
    have k0 : 0 < k := by omega
    have e1 : (i * k + j) / k = i := (blk_iff k i _ k0).1 ⟨by omega, by omega⟩
    have e2 : (i * k + j) % k = j := by rw [Nat.mod_eq_sub_div_mul, e1]; omega
    rw [e1, e2] at h1
    have hdi : d.toArray[i]! = x := by
      rw [getElem!_pos d.toArray i (by simpa using hil)]
      obtain ⟨_, h⟩ := List.getElem?_eq_some_iff.1 hi
      simpa using h
    have hej : (enc x)[j]! = u := by
      obtain ⟨g1, g2⟩ := List.getElem?_eq_some_iff.1 hu
      rw [getElem!_pos (enc x) j g1]
      exact g2
    rw [hdi, hej] at h1
    refine ⟨u, ?_, List.mem_of_getElem? hu, by cases hc'; rfl⟩
    have hs : i * k + j < (Sort.flatK enc k d.toArray).size := by rw [size_flatK]; exact hlt
    rw [Array.getElem?_eq_getElem hs]
    rw [getElem!_pos (Sort.flatK enc k d.toArray) (i * k + j) hs] at h1
    rw [h1]
theorem srtK_ok {τ : Shelf.Ren} {α : Type} [Inhabited α] (Lf : SlLaysF0.n6 P τ) (k : Nat) (hk0 : 0 < k) (aE : ∀ w, (isAgg (τ.t 24)).run P w = .ok true w) (zE : ∀ w, (Go.sizeOf (τ.t 24)).run P w = .ok k w) (enc : α → List Value) (hk : ∀ x, (enc x).length = k) (h1 : ∀ x, ∀ v ∈ enc x, v.oneCell' = true)
    (cf : α → α → Int) (hO : SWO (ltOf cf)) (g : Nat) (eg : ∀ args w, (callFunc g args).run P w = .ok (.enter g args) w) {H : Hp} (hH : HR base M ρ H w) {i0 : Nat} {b : Blk} (hb : H[i0]? = some (some b)) (hro : b.ro = false) (hkd : b.kd = 1) (hbk : b.k = k)
    (d : List α) (hd : b.es.take d.length = d.map (aggE enc)) (hsz : d.length < 4611686018427387904) {caps : List AV} {vs : Array Value}
    (hcmp : ∀ (L : Loc) (cb : Array Value), ρ[i0]? = some (some L) → Args M ρ w caps cb → CmpLays P g cb enc k cf L.g 0 d.length w) (hA : Args M ρ w [.sl i0 0 d.length, .fn (.func g) [] caps] vs) :
    Calls P (τ.f 6) vs w (Ans base M ρ H w (.tup []) (H.set i0 (some { b with es := (srtL cf d).map (aggE enc) ++ b.es.drop d.length }))) := by
  obtain ⟨ha1, ha2⟩ := hA
  obtain ⟨lv⟩ := vs
  match lv, ha1, ha2 with
  | [vx, vf], _, ha2 =>
    have v1 := ha2 0 _ _ rfl rfl
    have v2 := ha2 1 _ _ rfl rfl
    obtain ⟨L, A, c, hL, hc1, hc2, hA', rfl⟩ := live_sl hH v1 (b := b) (by unfold hget; rw [hb])
    have q := hH.blk i0 b L hb hL
    have hnl : d.length ≤ b.es.length := by
      have := congrArg List.length hd
      simp only [List.length_take, List.length_map] at this
      omega
    cases v2 with
    | @fn _ _ _ _ va vb hla hlb hva hvb =>
    have hva0 : va = #[] := by
      cases va with | mk l => cases l with
        | nil => rfl
        | cons x y => simp at hla
    subst hva0
    have hout : ∀ (m : Nat) (os : Array Obj), Ans base M ρ H w (.tup []) (H.set i0 (some { b with es := (srtL cf d).map (aggE enc) ++ b.es.drop d.length })) (.returned (.tuple #[])) (grow (putRow _root_.id (Sort.ahead w m) L.g 0 (Sort.flatK enc k (srtL cf d).toArray)) os) := by
      intro m os
      have hl := srtL_len cf hO d
      obtain ⟨r1, r2⟩ := row_hr hH hb hL hro hkd hnl (xs := (srtL cf d).map (aggE enc)) (by simp [hl]) (F := Sort.flatK enc k (srtL cf d).toArray) (by rw [size_flatK]; simp [hl, hbk]) (fun i e j c he hc => by
        rw [List.getElem?_map] at he
        cases hx : (srtL cf d)[i]? with
        | none => rw [hx] at he; cases he
        | some x =>
          rw [hx] at he
          cases he
          obtain ⟨u, g1, g2, g3⟩ := flat_get enc hk (srtL cf d) hx hc
          exact ⟨u, by rw [hbk]; exact g1, h1 x u g2, g3⟩) (fun i e he => by
        rw [List.getElem?_map] at he
        cases hx : (srtL cf d)[i]? with
        | none => rw [hx] at he; cases he
        | some x =>
          rw [hx] at he
          cases he
          show ((enc x).map AV.v).length = _
          rw [List.length_map, hk, hbk]) m os
      exact ⟨_, M, ρ, rfl, r1, r2, .tup rfl (fun i c u h => by simp at h)⟩
    have hA2 : A = some ⟨L.g, 0, none⟩ := by
      rcases hA' with hA' | hA'
      · exact absurd rfl hA'.1
      · rw [hA', Nat.zero_mul]
    subst hA2
    have hhold : HoldsK enc k w L.g 0 d.toArray := row_holds hH hb hL hkd hnl (F := Sort.flatK enc k d.toArray) (by rw [size_flatK]; simp [hbk]) (fun i e j c hi he hc => by
      have he' : (b.es.take d.length)[i]? = some e := by rw [List.getElem?_take, if_pos hi]; exact he
      rw [hd, List.getElem?_map] at he'
      cases hx : d[i]? with
      | none => rw [hx] at he'; cases he'
      | some x =>
        rw [hx] at he'
        cases he'
        obtain ⟨u, g1, _, g3⟩ := flat_get enc hk d hx hc
        exact ⟨u, by rw [hbk]; exact g1, g3⟩)
    have hcm : CmpLays P g vb enc k cf L.g 0 d.toArray.size w := by
      rw [List.size_toArray]
      exact hcmp L vb hL ⟨hlb, hvb⟩
    have hS := AnyQ.slices_SortFunc_eq Lf k aE zE enc hk h1 cf hO g vb L.g 0 c d.toArray w eg hcm hhold q.lt (by simpa using hsz)
    rw [List.size_toArray] at hS
    refine hS.mono ?_
    rintro e w' ⟨rfl, m, os, rfl⟩
    exact hout m os
theorem put_enc {α : Type} [Inhabited α] (enc : α → Value) (w : World) (g : Nat) (d : Array α) : putRow enc w g 0 d = putRow _root_.id w g 0 (d.map enc) := by
  unfold putRow
  refine mapBlock_congr w g _ _ fun c e fr _ => ?_
  unfold putCells
  refine Array.ext (by simp) fun k h2 h3 => ?_
  simp only [Array.getElem_mapIdx, Array.size_map, _root_.id, Nat.sub_zero]
  by_cases hk : 0 ≤ k ∧ k < 0 + d.size
  · have hk' : k < d.size := by omega
    rw [if_pos hk, if_pos hk, getElem!_pos d k hk', getElem!_pos (d.map enc) k (by simpa using hk')]
    simp
  · rw [if_neg hk, if_neg hk]
theorem flat1 {α : Type} {enc : α → Value} (hce : ∀ x, (AV.v (enc x)).cells = [AV.v (enc x)]) (d : List α) (i : Nat) (x : α) (j : Nat) (c : AV) (hx : d[i]? = some x) (hc : (AV.v (enc x)).cells[j]? = some c) : (d.toArray.map enc)[i * 1 + j]? = some (enc x) ∧ c = .v (enc x) := by
  rw [hce] at hc
  cases j with
  | zero =>
    cases hc
    rw [Nat.mul_one, Nat.add_zero, Array.getElem?_map, List.getElem?_toArray, hx]
    exact ⟨rfl, rfl⟩
  | succ j => simp at hc
/-- A row of values of one cell, others laid over its first ones. -/
theorem row1_ans {α : Type} [Inhabited α] (enc : α → Value) (h1' : ∀ x, (enc x).oneCell' = true) (hce : ∀ x, (AV.v (enc x)).cells = [AV.v (enc x)]) {H : Hp} (hH : HR base M ρ H w) {i0 : Nat} {b : Blk} (hb : H[i0]? = some (some b)) {L : Loc} (hL : ρ[i0]? = some (some L)) (hro : b.ro = false) (hkd : b.kd = 1) (hbk : b.k = 1)
    (d : List α) (hnl : d.length ≤ b.es.length) (m : Nat) (os : Array Obj) : Ans base M ρ H w (.tup []) (H.set i0 (some { b with es := d.map (fun x => AV.v (enc x)) ++ b.es.drop d.length })) (.returned (.tuple #[])) (grow (putRow enc (Sort.ahead w m) L.g 0 d.toArray) os) := by
  rw [put_enc]
  obtain ⟨r1, r2⟩ := row_hr hH hb hL hro hkd hnl (xs := d.map (fun x => AV.v (enc x))) (by simp) (F := d.toArray.map enc) (by simp [hbk]) (fun i e j c he hc => by
    rw [List.getElem?_map] at he
    cases hx : d[i]? with
    | none => rw [hx] at he; cases he
    | some x =>
      rw [hx] at he
      cases he
      obtain ⟨g1, g2⟩ := flat1 hce _ i x j c hx hc
      exact ⟨enc x, by rw [hbk]; exact g1, h1' x, g2⟩) (fun i e he => by
    rw [List.getElem?_map] at he
    cases hx : d[i]? with
    | none => rw [hx] at he; cases he
    | some x =>
      rw [hx] at he
      cases he
      rw [hce, hbk]
      rfl) m os
  exact ⟨_, M, ρ, rfl, r1, r2, .tup rfl (fun i c u h => by simp at h)⟩
theorem row1_holds {α : Type} [Inhabited α] (enc : α → Value) (hce : ∀ x, (AV.v (enc x)).cells = [AV.v (enc x)]) {H : Hp} (hH : HR base M ρ H w) {i0 : Nat} {b : Blk} (hb : H[i0]? = some (some b)) {L : Loc} (hL : ρ[i0]? = some (some L)) (hkd : b.kd = 1) (hbk : b.k = 1)
    (d : List α) (hd : b.es.take d.length = d.map (fun x => AV.v (enc x))) : Holds enc w L.g 0 d.toArray ∧ d.length ≤ b.es.length := by
  have hnl : d.length ≤ b.es.length := by
    have := congrArg List.length hd
    simp only [List.length_take, List.length_map] at this
    omega
  refine ⟨?_, hnl⟩
  have hhold0 : Holds _root_.id w L.g 0 (d.toArray.map enc) := row_holds hH hb hL hkd hnl (F := d.toArray.map enc) (by simp [hbk]) (fun i e j c hi he hc => by
    have he' : (b.es.take d.length)[i]? = some e := by rw [List.getElem?_take, if_pos hi]; exact he
    rw [hd, List.getElem?_map] at he'
    cases hx : d[i]? with
    | none => rw [hx] at he'; cases he'
    | some x =>
      rw [hx] at he'
      cases he'
      obtain ⟨g1, g2⟩ := flat1 hce d i x j c hx hc
      exact ⟨enc x, by rw [hbk]; exact g1, g2⟩)
  intro j hj
  have h := hhold0 j (by simpa using hj)
  refine ⟨h.1.trans ?_, h.2⟩
  have hj' : j < (d.toArray.map enc).size := by simpa using hj
  show some (_root_.id (d.toArray.map enc)[j]!) = some (enc d.toArray[j]!)
  rw [getElem!_pos _ j hj', getElem!_pos d.toArray j hj]
  simp
/-- The same at elements of one cell. -/
theorem srt1_ok {τ : Shelf.Ren} {α : Type} [Inhabited α] (Lf : SlLaysF.n6 P τ) (enc : α → Value) (h1 : OneCell enc) (h1' : ∀ x, (enc x).oneCell' = true) (hce : ∀ x, (AV.v (enc x)).cells = [AV.v (enc x)])
    (cf : α → α → Int) (hO : SWO (ltOf cf)) (g : Nat) (eg : ∀ args w, (callFunc g args).run P w = .ok (.enter g args) w) {H : Hp} (hH : HR base M ρ H w) {i0 : Nat} {b : Blk} (hb : H[i0]? = some (some b)) (hro : b.ro = false) (hkd : b.kd = 1) (hbk : b.k = 1)
    (d : List α) (hd : b.es.take d.length = d.map (fun x => AV.v (enc x))) (hsz : d.length < 4611686018427387904) {caps : List AV} {vs : Array Value}
    (hcmp : ∀ (L : Loc) (cb : Array Value), ρ[i0]? = some (some L) → Args M ρ w caps cb → CmpLays1 P g cb enc cf L.g 0 d.length w) (hA : Args M ρ w [.sl i0 0 d.length, .fn (.func g) [] caps] vs) :
    Calls P (τ.f 6) vs w (Ans base M ρ H w (.tup []) (H.set i0 (some { b with es := (srtL cf d).map (fun x => AV.v (enc x)) ++ b.es.drop d.length }))) := by
  obtain ⟨ha1, ha2⟩ := hA
  obtain ⟨lv⟩ := vs
  match lv, ha1, ha2 with
  | [vx, vf], _, ha2 =>
    have v1 := ha2 0 _ _ rfl rfl
    have v2 := ha2 1 _ _ rfl rfl
    obtain ⟨L, A, c, hL, hc1, hc2, hA', rfl⟩ := live_sl hH v1 (b := b) (by unfold hget; rw [hb])
    have q := hH.blk i0 b L hb hL
    cases v2 with
    | @fn _ _ _ _ va vb hla hlb hva hvb =>
    have hva0 : va = #[] := by
      cases va with | mk l => cases l with
        | nil => rfl
        | cons x y => simp at hla
    subst hva0
    have hl := srtL_len cf hO d
    have hA2 : A = some ⟨L.g, 0, none⟩ := by
      rcases hA' with hA' | hA'
      · exact absurd rfl hA'.1
      · rw [hA', Nat.zero_mul]
    subst hA2
    obtain ⟨hhold, hnl⟩ := row1_holds enc hce hH hb hL hkd hbk d hd
    have hcm : CmpLays1 P g vb enc cf L.g 0 d.toArray.size w := by
      rw [List.size_toArray]
      exact hcmp L vb hL ⟨hlb, hvb⟩
    have hS := Any.slices_SortFunc_eq Lf enc h1 cf hO g vb L.g 0 c d.toArray w eg hcm hhold q.lt (by simpa using hsz)
    rw [List.size_toArray] at hS
    refine hS.mono ?_
    rintro e w' ⟨rfl, m, os, rfl⟩
    have h := row1_ans enc h1' hce hH hb hL hro hkd hbk (srtL cf d) (by omega) m os
    rw [hl] at h
    exact h
-- ---------------------------------------------------------------- what a comparison that the evaluator knows owes the sort
theorem world_grow {W w' : World} (h1 : w'.os = W.os) (h2 : w'.tape = W.tape) (h3 : w'.output = W.output) (hs : W.heap.size ≤ w'.heap.size) (hk : ∀ g, g < W.heap.size → w'.heap[g]? = W.heap[g]?) (hd : W.drawn ≤ w'.drawn) : ∃ q os', w' = grow (W.drewN q) os' := by
  refine ⟨w'.drawn - W.drawn, w'.heap.extract W.heap.size w'.heap.size, ?_⟩
  have hh : w'.heap = W.heap ++ w'.heap.extract W.heap.size w'.heap.size := by
    apply Array.ext_getElem?
    intro i
    by_cases hi : i < W.heap.size
    · rw [Array.getElem?_append_left hi]
      exact hk i hi
    · rw [Array.getElem?_append_right (by omega), Array.getElem?_extract]
      by_cases h : i < w'.heap.size
      · rw [if_pos (by omega), show W.heap.size + (i - W.heap.size) = i by omega]
      · rw [if_neg (by omega), Array.getElem?_eq_none (by omega)]
  have hdd : w'.drawn = W.drawn + (w'.drawn - W.drawn) := by omega
  obtain ⟨heap, tape, drawn, os, output⟩ := w'
  unfold grow World.drewN
  dsimp only at *
  subst h1 h2 h3
  rw [← hh, ← hdd]
theorem cmp_of {n0 : Nat} {G : World → Prop} {C : Clo} (hC : CS P n0 G C) {g : Nat} {xs : List AV} {r : Int} (hev : C g xs [] = some (i64 r, [])) {M1 : Nat → Prop} {W : World} {vs : Array Value} (hGW : G W) (hn : n0 ≤ W.heap.size) (hlt : ∀ x, M1 x → x < W.heap.size) (hA : Args M1 [] W xs vs) :
    Calls P g vs W fun e w' => e = .returned (.int .i64 r) ∧ ∃ q os', w' = grow (W.drewN q) os' := by
  have h := (hC g xs [] _ _ hev).2 W.heap.size M1 [] W vs hGW hn (Nat.le_refl _) (HR.empty _ hlt) hA
  refine (calls_drawn h (fun e w' ⟨v, _, _, h1, _⟩ => ⟨v, h1⟩)).mono ?_
  rintro e w' ⟨⟨v, M', ρ', rfl, hHR, hE, hV⟩, hd⟩
  obtain rfl := vr_v hV
  exact ⟨rfl, world_grow hE.os hE.tape hE.output hE.size (fun g hg => hE.keep g hg (fun hw => Wr.nil hw)) hd⟩
/-- The worlds that a sort goes through, told by what stays. -/
theorem srt_world (w : World) (g : Nat) (F : Array Value) (m : Nat) (os : Array Obj) : (grow (putRow _root_.id (Sort.ahead w m) g 0 F) os).os = w.os ∧ (grow (putRow _root_.id (Sort.ahead w m) g 0 F) os).tape = w.tape ∧ w.heap.size ≤ (grow (putRow _root_.id (Sort.ahead w m) g 0 F) os).heap.size ∧ ∀ k, k < w.heap.size → k ≠ g → (grow (putRow _root_.id (Sort.ahead w m) g 0 F) os).heap[k]? = w.heap[k]? := by
  refine ⟨rfl, rfl, ?_, ?_⟩
  · show w.heap.size ≤ ((w.heap.modify g (onCells (putCells _root_.id 0 F))) ++ os).size
    simp
  · intro k hk hne
    show ((w.heap.modify g (onCells (putCells _root_.id 0 F))) ++ os)[k]? = _
    rw [Array.getElem?_append_left (by simpa using hk), Array.getElem?_modify, if_neg (fun e => hne e.symm)]
theorem cmp_args {H : Hp} (hH : HR base M ρ H w) {i0 : Nat} {b : Blk} (hb : H[i0]? = some (some b)) {L : Loc} (hL : ρ[i0]? = some (some L)) (hro : b.ro = false) {caps caps' : List AV} {l : List Nat} (hf : fzL (fz H fzd) caps = some (caps', l)) (hil : i0 ∉ l) {cb : Array Value} (hcb : Args M ρ w caps cb)
    {W : World} (hs : w.heap.size ≤ W.heap.size) (hk : ∀ k, k < w.heap.size → k ≠ L.g → W.heap[k]? = w.heap[k]?) : Args (Mu M ρ l) [] W caps' cb ∧ ∀ g, Mu M ρ l g → g < W.heap.size := by
  obtain ⟨h1, h2⟩ := fz_args hH hf hcb
  have hnM := hH.notM (⟨i0, b, L, hb, hro, hL, rfl⟩ : Wr ρ H L.g)
  have hlt : ∀ g, Mu M ρ l g → g < w.heap.size ∧ g ≠ L.g := by
    intro g hg
    rcases hg with hg | ⟨id, hid, L', hL', rfl⟩
    · exact ⟨hH.mlt g hg, fun e => hnM (e ▸ hg)⟩
    · obtain ⟨b', hb'⟩ := hH.back hL'
      exact ⟨(hH.blk id b' L' hb' hL').lt, hH.inj id i0 L' L hL' hL (fun e => hil (e ▸ hid))⟩
  refine ⟨⟨h1, fun i c u e1 e2 => (h2 i c u e1 e2).mono (fun _ h => h) (fun g hg => hk g (hlt g hg).1 (hlt g hg).2) (Rle.refl _)⟩, fun g hg => Nat.lt_of_lt_of_le (hlt g hg).1 hs⟩
theorem low_at {n0 : Nat} {G : World → Prop} (hG : Low n0 G) {H : Hp} (hH : HR base M ρ H w) (hn : n0 ≤ base) (hB : base ≤ w.heap.size) (hGw : G w) {i0 : Nat} {b : Blk} (hb : H[i0]? = some (some b)) {L : Loc} (hL : ρ[i0]? = some (some L)) (F : Array Value) (m : Nat) (os : Array Obj) : G (grow (putRow _root_.id (Sort.ahead w m) L.g 0 F) os) := by
  obtain ⟨a1, a2, a3, a4⟩ := srt_world w L.g F m os
  have := (hH.blk i0 b L hb hL).lo
  exact hG.keep w _ hGw (fun g hg => a4 g (by omega) (by omega)) a1 a2
theorem cmp_laysK {n0 : Nat} {G : World → Prop} (hG : Low n0 G) {C : Clo} (hC : CS P n0 G C) {α : Type} [Inhabited α] {enc : α → List Value} (h1 : ∀ x, ∀ v ∈ enc x, v.oneCell' = true) {k : Nat} {cf : α → α → Int} {g : Nat} {H : Hp} (hH : HR base M ρ H w) (hGw : G w) (hn : n0 ≤ base) (hB : base ≤ w.heap.size)
    {i0 : Nat} {b : Blk} (hb : H[i0]? = some (some b)) {L : Loc} (hL : ρ[i0]? = some (some L)) (hro : b.ro = false) {caps caps' : List AV} {l : List Nat} (hf : fzL (fz H fzd) caps = some (caps', l)) (hil : i0 ∉ l) {cb : Array Value} (hcb : Args M ρ w caps cb)
    (hev : ∀ x y, C g ([aggE enc x, aggE enc y] ++ caps') [] = some (i64 (cf x y), [])) (n : Nat) : CmpLays P g cb enc k cf L.g 0 n w := by
  intro m os dk _ x y
  show Calls P g _ (grow (putRow _root_.id (Sort.ahead w m) L.g 0 (Sort.flatK enc k dk)) os) _
  obtain ⟨a1, a2, a3, a4⟩ := srt_world w L.g (Sort.flatK enc k dk) m os
  obtain ⟨⟨c1, c2⟩, c3⟩ := cmp_args hH hb hL hro hf hil hcb a3 a4
  refine cmp_of hC (hev x y) (low_at hG hH hn hB hGw hb hL _ m os) (by omega) c3 ⟨by simp; omega, fun i c u e1 e2 => ?_⟩
  have hagg : ∀ x, VR (Mu M ρ l) (grow (putRow _root_.id (Sort.ahead w m) L.g 0 (Sort.flatK enc k dk)) os) [] (aggE enc x) (.agg (enc x).toArray) := fun x => .agg (by simp) (fun u hu => h1 x u (by simpa using hu)) (fun i c u e1 e2 => by
    rw [List.getElem?_map] at e1
    rw [show (enc x).toArray.toList = enc x by simp] at e2
    rw [e2] at e1
    cases e1
    exact .v)
  match i with
  | 0 => cases e1; simp at e2; subst e2; exact hagg x
  | 1 => cases e1; simp at e2; subst e2; exact hagg y
  | i + 2 =>
    refine c2 i c u (by simpa using e1) ?_
    rw [Array.toList_append] at e2
    simpa using e2
theorem cmp_lays1 {n0 : Nat} {G : World → Prop} (hG : Low n0 G) {C : Clo} (hC : CS P n0 G C) {α : Type} [Inhabited α] {enc : α → Value} {cf : α → α → Int} {g : Nat} {H : Hp} (hH : HR base M ρ H w) (hGw : G w) (hn : n0 ≤ base) (hB : base ≤ w.heap.size)
    {i0 : Nat} {b : Blk} (hb : H[i0]? = some (some b)) {L : Loc} (hL : ρ[i0]? = some (some L)) (hro : b.ro = false) {caps caps' : List AV} {l : List Nat} (hf : fzL (fz H fzd) caps = some (caps', l)) (hil : i0 ∉ l) {cb : Array Value} (hcb : Args M ρ w caps cb)
    (hev : ∀ x y, C g ([AV.v (enc x), AV.v (enc y)] ++ caps') [] = some (i64 (cf x y), [])) (n : Nat) : CmpLays1 P g cb enc cf L.g 0 n w := by
  intro m os dk _ x y
  show Calls P g _ (grow (putRow enc (Sort.ahead w m) L.g 0 dk) os) (fun e w' => e = .returned (.int .i64 (cf x y)) ∧ ∃ q os', w' = grow ((grow (putRow enc (Sort.ahead w m) L.g 0 dk) os).drewN q) os')
  rw [put_enc]
  obtain ⟨a1, a2, a3, a4⟩ := srt_world w L.g (dk.map enc) m os
  obtain ⟨⟨c1, c2⟩, c3⟩ := cmp_args hH hb hL hro hf hil hcb a3 a4
  refine cmp_of hC (hev x y) (low_at hG hH hn hB hGw hb hL _ m os) (by omega) c3 ⟨by simp; omega, fun i c u e1 e2 => ?_⟩
  match i with
  | 0 => cases e1; simp at e2; subst e2; exact .v
  | 1 => cases e1; simp at e2; subst e2; exact .v
  | i + 2 =>
    refine c2 i c u (by simpa using e1) ?_
    rw [Array.toList_append] at e2
    simpa using e2
end Go.Proofs.YtlmjoimjdpfamaaGreat.Ev
