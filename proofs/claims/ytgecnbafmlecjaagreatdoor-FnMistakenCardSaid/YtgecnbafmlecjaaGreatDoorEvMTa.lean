/- Marks and letters of a table, letters added and swapped, times of marks. -/
import Derived.Test.YtgecnbafmlecjaaGreatDoorEvTa2
import Derived.Test.YtgecnbafmlecjaaGreatDoorEvMDr
import Derived.Test.YtgecnbafmlecjaaGreatDoorEvTextOf
import Derived.Test.YtgecnbafmlecjaaGreatDoorEvStation
set_option linter.unusedVariables false
set_option linter.unusedSimpArgs false
namespace Go.Proofs.YtgecnbafmlecjaaGreatDoor.Ev
def okMk (ms : List ByteArray) (k : Int) : Bool := okTable ms && okLetter ms k
theorem at_letter {ms : List ByteArray} {k : Int} (h : okLetter ms k = true) : ∃ n : Nat, k = n ∧ n < ms.length ∧ (ms.map st)[n]? = some (st (mk_ ms n)) := by
  obtain ⟨h0, h1⟩ := okLetter_bounds h
  obtain ⟨n, rfl⟩ : ∃ n : Nat, k = n := ⟨k.toNat, by omega⟩
  have hn : n < ms.length := by omega
  exact ⟨n, rfl, hn, by rw [List.getElem?_map, List.getElem?_eq_getElem hn, mk_at hn]; rfl⟩
theorem marksOf_i (ms : List ByteArray) (hm : ms.length ≤ 100000) (hz : ∀ m ∈ ms, m.size ≤ 100000) (k : Int) : ev E0 19 [.agg [.lst 1 (ms.map st)], i64 k] [] = some (.tup [st (if okMk ms k = true then mk_ ms k.toNat else ⟨#[]⟩), bl (okMk ms k)], []) := by
  have h1 := table_i ms (by omega) (fun x hx => by have := hz x hx; omega)
  have h2 := letter_i ms (by omega) k
  unfold okMk
  rw [e19]
  unfold runF
  cases ho : okTable ms with
  | false => rw [ho] at h1; simp -implicitDefEqProofs [L19, h1]
  | true =>
    cases hl : okLetter ms k with
    | false => rw [ho] at h1; rw [hl] at h2; simp -implicitDefEqProofs [L19, h1, h2]
    | true =>
      rw [ho] at h1
      rw [hl] at h2
      obtain ⟨n, rfl, hn, hg⟩ := at_letter hl
      have hg2 : ∀ h, (ms.map st)[n]'h = st (mk_ ms n) := fun h => (List.getElem?_eq_some_iff.1 hg).2
      have hn2 : (n : Int) < (ms.length : Int) := by omega
      simp -implicitDefEqProofs [L19, h1, h2, hn, hn2, hg, hg2]
theorem letter_in (ms : List ByteArray) (hm : ms.length ≤ 100000) (k : Int) : IntKind.i64.wrap ((ms.length : Int) - 1) = (ms.length : Int) - 1 ∧ ev E0 44 [i64 k, i64 0, i64 ((ms.length : Int) - 1)] [] = some (bl (okLetter ms k), []) := by
  refine ⟨wr64 (by omega) (by omega), ?_⟩
  rw [in_s]
  rfl
def okLt (ms : List ByteArray) (x : ByteArray) : Bool := okTable ms && okMarks x 1 5
def ltOf (ms : List ByteArray) (x : ByteArray) : AV := .tup [i64 (if okLt ms x = true then (if place x ms 0 < 0 then 0 else place x ms 0) else 0), bl (okLt ms x && decide (0 ≤ place x ms 0))]
def addOk (ms : List ByteArray) (x : ByteArray) : Bool := okTable ms && okTable (ms ++ [x])
def swOk (ms : List ByteArray) (i j : Int) : Bool := okTable ms && (okLetter ms i && okLetter ms j)
def swT (ms : List ByteArray) (i j : Nat) : List ByteArray := (ms.set i (mk_ ms j)).set j (mk_ ms i)
end Go.Proofs.YtgecnbafmlecjaaGreatDoor.Ev

namespace Go.Proofs.YtgecnbafmlecjaaGreatDoor.Ev
def dash (s : ByteArray) : Nat := Lib.countByte (B s) 45
def tmOf (s : ByteArray) : AV := .tup [i64 (if okMarks s 1 5 = true then 2 * (s.size : Int) - 1 + 2 * (dash s : Int) else 0), bl (okMarks s 1 5)]
end Go.Proofs.YtgecnbafmlecjaaGreatDoor.Ev

namespace Go.Proofs.YtgecnbafmlecjaaGreatDoor.Ev
theorem place_mem (x : ByteArray) (t : List ByteArray) : 0 ≤ place x t 0 ↔ x ∈ t := by
  rcases place_nat x t 0 with ⟨h1, h2⟩ | ⟨h1, h2⟩
  · exact ⟨fun h => by omega, fun h => absurd h h2⟩
  · exact ⟨fun _ => h2, fun _ => by omega⟩
theorem chk_iff : ∀ (t seen : List ByteArray), chk seen t = true ↔ (∀ m ∈ t, okMarks m 1 5 = true) ∧ t.Nodup ∧ ∀ m ∈ t, m ∉ seen
  | [], seen => by simp [chk]
  | x :: t, seen => by
    have ih := chk_iff t (seen ++ [x])
    have hp := place_mem x seen
    rw [chk, Bool.and_eq_true, Bool.and_eq_true, ih, Bool.not_eq_true', decide_eq_false_iff_not, hp]
    constructor
    · rintro ⟨h1, h2, h3, h4, h5⟩
      refine ⟨fun m hm => ?_, List.nodup_cons.2 ⟨fun hx => (h5 x hx) (by simp), h4⟩, fun m hm => ?_⟩
      · rcases List.mem_cons.1 hm with rfl | hm
        · exact h1
        · exact h3 m hm
      · rcases List.mem_cons.1 hm with rfl | hm
        · exact h2
        · exact fun hs => h5 m hm (by simp [hs])
    · rintro ⟨h1, h2, h3⟩
      rw [List.nodup_cons] at h2
      refine ⟨h1 x (by simp), h3 x (by simp), fun m hm => h1 m (by simp [hm]), h2.2, fun m hm hs => ?_⟩
      rcases List.mem_append.1 hs with hs | hs
      · exact h3 m (by simp [hm]) hs
      · rw [List.mem_singleton.1 hs] at hm
        exact h2.1 hm
theorem tab_iff (ms : List ByteArray) : okTable ms = true ↔ (1 ≤ ms.length ∧ ms.length ≤ 10) ∧ (∀ m ∈ ms, okMarks m 1 5 = true) ∧ ms.Nodup := by
  unfold okTable
  rw [Bool.and_eq_true, Bool.and_eq_true, decide_eq_true_eq, decide_eq_true_eq, chk_iff]
  constructor
  · rintro ⟨⟨h1, h2⟩, h3, h4, _⟩
    exact ⟨⟨by omega, by omega⟩, h3, h4⟩
  · rintro ⟨⟨h1, h2⟩, h3, h4⟩
    exact ⟨⟨by omega, by omega⟩, h3, h4, by simp⟩
theorem nodup_map {f : ByteArray → ByteArray} : ∀ {l : List ByteArray}, (∀ a ∈ l, ∀ b ∈ l, f a = f b → a = b) → l.Nodup → (l.map f).Nodup
  | [], _, _ => List.nodup_nil
  | x :: l, h, hn => by
    rw [List.nodup_cons] at hn
    rw [List.map_cons, List.nodup_cons]
    refine ⟨fun hx => ?_, nodup_map (fun a ha b hb => h a (by simp [ha]) b (by simp [hb])) hn.2⟩
    obtain ⟨y, hy, e⟩ := List.mem_map.1 hx
    have := h y (by simp [hy]) x (by simp) e
    rw [this] at hy
    exact hn.1 hy
/-- A turn of marks that undoes itself. -/
structure Turns (f : ByteArray → ByteArray) : Prop where
  ok : ∀ x, okMarks x 1 5 = true → okMarks (f x) 1 5 = true
  inv : ∀ x, okMarks x 1 5 = true → f (f x) = x
theorem Turns.tab {f : ByteArray → ByteArray} (h : Turns f) {ms : List ByteArray} (ho : okTable ms = true) : okTable (ms.map f) = true := by
  obtain ⟨h1, h2, h3⟩ := (tab_iff ms).1 ho
  refine (tab_iff _).2 ⟨by rwa [List.length_map], fun m hm => ?_, nodup_map (fun a ha b hb e => ?_) h3⟩
  · obtain ⟨y, hy, rfl⟩ := List.mem_map.1 hm
    exact h.ok y (h2 y hy)
  · rw [← h.inv a (h2 a ha), ← h.inv b (h2 b hb), e]
theorem Turns.twice {f : ByteArray → ByteArray} (h : Turns f) {ms : List ByteArray} (ho : okTable ms = true) : (ms.map f).map f = ms := by
  obtain ⟨h1, h2, h3⟩ := (tab_iff ms).1 ho
  rw [List.map_map]
  conv => rhs; rw [← List.map_id ms]
  exact List.map_congr_left fun x hx => h.inv x (h2 x hx)
theorem marks_def {x : ByteArray} : okMarks x 1 5 = true ↔ (∀ b ∈ B x, b = 46 ∨ b = 45) ∧ 1 ≤ (B x).length ∧ (B x).length ≤ 5 := by
  unfold okMarks
  rw [Bool.and_eq_true, Bool.and_eq_true, decide_eq_true_eq, decide_eq_true_eq, List.all_eq_true, B_len]
  constructor
  · rintro ⟨h1, h2, h3⟩
    exact ⟨fun b hb => by simpa [okM] using h1 b hb, by omega, by omega⟩
  · rintro ⟨h1, h2, h3⟩
    exact ⟨fun b hb => by simpa [okM] using h1 b hb, by omega, by omega⟩
theorem B_opp (x : ByteArray) : B (oppB x) = (B x).map fun b => if b = 46 then 45 else 46 := rfl
theorem B_rev (x : ByteArray) : B (revB x) = (B x).reverse := by unfold revB; simp [B]
theorem turns_opp : Turns oppB where
  ok x h := by
    obtain ⟨h1, h2, h3⟩ := marks_def.1 h
    refine marks_def.2 ⟨fun b hb => ?_, by rw [B_opp, List.length_map]; exact h2, by rw [B_opp, List.length_map]; exact h3⟩
    rw [B_opp] at hb
    obtain ⟨c, _, rfl⟩ := List.mem_map.1 hb
    by_cases e : c = 46
    · exact .inr (if_pos e)
    · exact .inl (if_neg e)
  inv x h := by
    obtain ⟨h1, h2, h3⟩ := marks_def.1 h
    apply B_eq
    rw [B_opp, B_opp, List.map_map]
    conv => rhs; rw [← List.map_id (B x)]
    refine List.map_congr_left fun b hb => ?_
    rcases h1 b hb with rfl | rfl <;> rfl
theorem turns_rev : Turns revB where
  ok x h := by
    obtain ⟨h1, h2, h3⟩ := marks_def.1 h
    exact marks_def.2 ⟨fun b hb => h1 b (by rw [B_rev] at hb; exact List.mem_reverse.1 hb), by rw [B_rev, List.length_reverse]; exact h2, by rw [B_rev, List.length_reverse]; exact h3⟩
  inv x h := B_eq (by rw [B_rev, B_rev, List.reverse_reverse])
theorem opp_rev (ms : List ByteArray) : (ms.map oppB).map revB = (ms.map revB).map oppB := by
  rw [List.map_map, List.map_map]
  exact List.map_congr_left fun x _ => B_eq (by show B (revB (oppB x)) = B (oppB (revB x)); rw [B_rev, B_opp, B_opp, B_rev, List.map_reverse])
theorem place_nd {ms : List ByteArray} (hn : ms.Nodup) {k : Nat} (hk : k < ms.length) : place (mk_ ms k) ms 0 = k := by
  have e : ms = ms.take k ++ ms[k] :: ms.drop (k + 1) := by rw [List.getElem_cons_drop, List.take_append_drop]
  have hx : ms[k] = mk_ ms k := mk_at hk
  have h := (place_at ms[k] (ms.take k) (ms.drop (k + 1)) 0).2 (fun hm => by
    rw [e, List.nodup_append] at hn
    exact hn.2.2 _ hm _ (List.mem_cons_self ..) rfl)
  rw [← e, List.length_take] at h
  rw [← hx, h]
  congr 1
  omega
theorem add_place {ms : List ByteArray} {x : ByteArray} (h : okTable (ms ++ [x]) = true) : place x (ms ++ [x]) 0 = ms.length ∧ place x ms 0 < 0 ∧ okMarks x 1 5 = true := by
  obtain ⟨_, h2, h3⟩ := (tab_iff _).1 h
  have hx : x ∉ ms := fun hm => by
    rw [List.nodup_append] at h3
    exact h3.2.2 _ hm _ (List.mem_singleton.2 rfl) rfl
  refine ⟨?_, ?_, h2 x (by simp)⟩
  · have := (place_at x ms [] 0).2 hx
    rw [this]
    congr 1
    omega
  · have := place_mem x ms
    by_cases hp : 0 ≤ place x ms 0
    · exact absurd (this.1 hp) hx
    · omega
theorem parts_one (b : UInt8) : ∀ l : List UInt8, b ∉ l → parts b l = [l]
  | [], _ => rfl
  | c :: t, h => by
    have hc : ¬ c = b := fun e => h (by simp [e])
    rw [parts, if_neg hc, parts_one b t (fun ht => h (by simp [ht]))]
theorem parts_pre (b : UInt8) (r : List UInt8) : ∀ l : List UInt8, b ∉ l → parts b (l ++ b :: r) = l :: parts b r
  | [], _ => by rw [List.nil_append, parts, if_pos rfl]
  | c :: t, h => by
    have hc : ¬ c = b := fun e => h (by simp [e])
    rw [List.cons_append, parts, if_neg hc, parts_pre b r t (fun ht => h (by simp [ht]))]
theorem parts_tail (b : UInt8) : ∀ (r : List (List UInt8)) (l : List UInt8), b ∉ l → (∀ x ∈ r, b ∉ x) → parts b (l ++ Lib.joinTail [b] r) = l :: r
  | [], l, h, _ => by
    rw [show Lib.joinTail [b] [] = [] from rfl, List.append_nil]
    exact parts_one b l h
  | x :: r, l, h, hr => by
    have e : Lib.joinTail [b] (x :: r) = b :: (x ++ Lib.joinTail [b] r) := by simp [Lib.joinTail]
    rw [e, parts_pre b _ l h, parts_tail b r x (hr x (by simp)) (fun y hy => hr y (by simp [hy]))]
theorem text_parts {ms : List ByteArray} (h : okTable ms = true) : partsB 44 (textL 0 ⟨#[]⟩ ms) = ms := by
  obtain ⟨h1, h2, h3⟩ := (tab_iff ms).1 h
  have hno : ∀ m ∈ ms, (44 : UInt8) ∉ B m := fun m hm hx => by
    rcases (marks_def.1 (h2 m hm)).1 44 hx with e | e <;> exact absurd e (by decide)
  match ms, h1, hno with
  | [], h1, _ => simp at h1
  | m :: t, _, hno =>
    have e1 : textL 0 ⟨#[]⟩ (m :: t) = textL 1 (stepT 0 ⟨#[]⟩ m) t := rfl
    have e2 := textL_tail t 0 (stepT 0 ⟨#[]⟩ m)
    have e3 : B (stepT 0 ⟨#[]⟩ m) = B m := by unfold stepT; rw [if_pos rfl, B_append]; rfl
    unfold partsB
    rw [e1, e2, e3, show t.map (·.data.toList) = t.map B from rfl, parts_tail 44 (t.map B) (B m) (hno m (by simp)) (fun x hx => by
      obtain ⟨y, hy, rfl⟩ := List.mem_map.1 hx
      exact hno y (by simp [hy])), List.map_cons, mkB_B, List.map_map]
    congr 1
    conv => rhs; rw [← List.map_id t]
    exact List.map_congr_left fun x _ => mkB_B x
theorem swT_len (ms : List ByteArray) (i j : Nat) : (swT ms i j).length = ms.length := by unfold swT; rw [List.length_set, List.length_set]
theorem swT_at (ms : List ByteArray) (i j : Nat) (hi : i < ms.length) (hj : j < ms.length) (k : Nat) (hk : k < (swT ms i j).length) : (swT ms i j)[k] = mk_ ms (if k = j then i else if k = i then j else k) := by
  have hk2 : k < ms.length := by rwa [swT_len] at hk
  have e : (swT ms i j)[k]? = some (mk_ ms (if k = j then i else if k = i then j else k)) := by
    unfold swT
    rw [List.getElem?_set, List.length_set]
    by_cases e1 : j = k
    · rw [if_pos e1, if_pos hj, if_pos e1.symm]
    · rw [if_neg e1, if_neg (fun e => e1 e.symm), List.getElem?_set]
      by_cases e2 : i = k
      · rw [if_pos e2, if_pos hi, if_pos e2.symm]
      · rw [if_neg e2, if_neg (fun e => e2 e.symm), List.getElem?_eq_getElem hk2, mk_at hk2]
  exact (List.getElem?_eq_some_iff.1 e).2
theorem mk_mem {ms : List ByteArray} {k : Nat} (h : k < ms.length) : mk_ ms k ∈ ms := by rw [← mk_at h]; exact List.getElem_mem _
theorem mk_inj {ms : List ByteArray} (hn : ms.Nodup) {a b : Nat} (ha : a < ms.length) (hb : b < ms.length) (h : mk_ ms a = mk_ ms b) : a = b := by
  have p1 := place_nd hn ha
  have p2 := place_nd hn hb
  rw [h, p2] at p1
  omega
theorem swT_ok {ms : List ByteArray} {i j : Nat} (h : okTable ms = true) (hi : i < ms.length) (hj : j < ms.length) : okTable (swT ms i j) = true := by
  obtain ⟨h1, h2, h3⟩ := (tab_iff ms).1 h
  have hs : ∀ k, k < ms.length → (if k = j then i else if k = i then j else k) < ms.length := fun k hk => by
    split
    · exact hi
    · split
      · exact hj
      · exact hk
  refine (tab_iff _).2 ⟨by rwa [swT_len], fun m hm => ?_, ?_⟩
  · obtain ⟨k, hk, rfl⟩ := List.getElem_of_mem hm
    rw [swT_at ms i j hi hj]
    exact h2 _ (mk_mem (hs k (by rwa [swT_len] at hk)))
  · unfold List.Nodup
    rw [List.pairwise_iff_getElem]
    intro a b ha hb hab e
    rw [swT_at ms i j hi hj, swT_at ms i j hi hj] at e
    have := mk_inj h3 (hs a (by rwa [swT_len] at ha)) (hs b (by rwa [swT_len] at hb)) e
    split at this <;> split at this <;> (try split at this) <;> (try split at this) <;> omega
theorem swT_twice {ms : List ByteArray} {i j : Nat} (hi : i < ms.length) (hj : j < ms.length) : swT (swT ms i j) i j = ms := by
  have hl := swT_len ms i j
  apply List.ext_getElem
  · rw [swT_len, swT_len]
  · intro k h1 h2
    have hk2 : (if k = j then i else if k = i then j else k) < (swT ms i j).length := by
      rw [hl]
      split
      · exact hi
      · split
        · exact hj
        · exact h2
    rw [swT_at (swT ms i j) i j (by omega) (by omega), ← mk_at hk2, swT_at ms i j hi hj, mk_at h2]
    congr 1
    by_cases e1 : k = j
    · subst e1
      rw [if_pos rfl]
      by_cases e2 : i = k
      · rw [if_pos e2, e2]
      · rw [if_neg e2, if_pos rfl]
    · rw [if_neg e1]
      by_cases e2 : k = i
      · subst e2
        rw [if_pos rfl, if_pos rfl]
      · rw [if_neg e2, if_neg e1, if_neg e2]
end Go.Proofs.YtgecnbafmlecjaaGreatDoor.Ev

