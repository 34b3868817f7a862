/- slices.SortFunc of hops by byBegin, as a given. -/
import Derived.Test.YtlmjoimjdpfamaaGreatEvE00
import Derived.Test.YtlmjoimjdpfamaaGreatEvSrt0
import Derived.Test.YtlmjoimjdpfamaaGreatShelf
set_option linter.unusedVariables false
set_option linter.unusedSimpArgs false
set_option linter.constructorNameAsVariable false
namespace Go.Proofs.YtlmjoimjdpfamaaGreat.Ev
open Go.Sort
def cmpB (x y : Int) : Int := if x < y then -1 else if y < x then 1 else 0
theorem nan00 (x : Int) : ev E00 92 [i64 x] [] = some (bl false, []) := by
  rw [d92]
  unfold runF
  simp -implicitDefEqProofs [L92]
theorem cmp00 (x y : Int) : ev E00 76 [i64 x, i64 y] [] = some (i64 (cmpB x y), []) := by
  rw [d76]
  unfold runF cmpB
  by_cases h1 : x < y
  · simp -implicitDefEqProofs [L76, nan00, h1]
  · by_cases h2 : y < x
    · simp -implicitDefEqProofs [L76, nan00, h1, h2]
    · simp -implicitDefEqProofs [L76, nan00, h1, h2]
def orB (a b : Int) : Int := if a = 0 then b else a
theorem or00 (a b : Int) : ev E00 75 [.lst 1 [i64 a, i64 b]] [] = some (i64 (orB a b), []) := by
  have w1 : IntKind.i64.wrap 1 = 1 := wr64 (by omega) (by omega)
  have w2 : IntKind.i64.wrap 2 = 2 := wr64 (by omega) (by omega)
  rw [d75]
  unfold runF orB
  by_cases ha : a = 0
  · subst ha
    by_cases hb : b = 0
    · subst hb
      simp -implicitDefEqProofs [L75, loopW_eq, bd, L75b0, w1, w2]
    · simp -implicitDefEqProofs [L75, loopW_eq, bd, L75b0, w1, w2, hb]
  · simp -implicitDefEqProofs [L75, loopW_eq, bd, L75b0, w1, w2, ha]
def hopE (h : Int × Int × Int) : List Value := [.int .i64 h.1, .int .i64 h.2.1, .int .i64 h.2.2]
def cfB (x y : Int × Int × Int) : Int := orB (cmpB x.2.2 y.2.2) (cmpB x.1 y.1)
theorem begin00 (x y : Int × Int × Int) : ev E00 62 [aggE hopE x, aggE hopE y] [] = some (i64 (cfB x y), []) := by
  rw [d62]
  unfold runF cfB aggE hopE
  simp -implicitDefEqProofs [L62, cmp00, or00]
theorem ltB (x y : Int × Int × Int) : ltOf cfB x y = (decide (x.2.2 < y.2.2) || (decide (x.2.2 = y.2.2) && decide (x.1 < y.1))) := by
  unfold ltOf cfB orB cmpB
  by_cases h1 : x.2.2 < y.2.2
  · simp [h1]
  · by_cases h2 : y.2.2 < x.2.2
    · have : ¬ x.2.2 = y.2.2 := by omega
      simp [h1, h2, this]
    · have he : x.2.2 = y.2.2 := by omega
      by_cases h3 : x.1 < y.1
      · simp [h1, h2, h3, he]
      · by_cases h4 : y.1 < x.1 <;> simp [h1, h2, h3, h4, he]
theorem swoB : SWO (ltOf cfB) where
  irrefl x := by rw [ltB]; simp
  trans x y z h1 h2 := by
    rw [ltB] at *
    simp only [Bool.or_eq_true, Bool.and_eq_true, decide_eq_true_eq] at *
    omega
  ntrans x y z h1 h2 := by
    rw [ltB] at *
    simp only [Bool.or_eq_false_iff, Bool.and_eq_false_iff, decide_eq_false_iff_not] at *
    omega
def hopsOf : List AV → Option (List (Int × Int × Int))
  | [] => some []
  | .agg [.v (.int .i64 a), .v (.int .i64 b), .v (.int .i64 c)] :: r => (hopsOf r).bind fun l => some ((a, b, c) :: l)
  | _ :: _ => none
theorem hopsOf_map : ∀ l : List (Int × Int × Int), hopsOf (l.map (aggE hopE)) = some l
  | [] => rfl
  | (a, b, c) :: r => by
    have h := hopsOf_map r
    rw [List.map_cons]
    show (hopsOf (r.map (aggE hopE))).bind _ = _
    rw [h]
    rfl
theorem hopsOf_some : ∀ {xs : List AV} {l : List (Int × Int × Int)}, hopsOf xs = some l → xs = l.map (aggE hopE)
  | [], l, h => by cases h; rfl
  | x :: r, l, h => by
    unfold hopsOf at h
    split at h
    · rename_i h0; cases h0
    · rename_i a b c r' h0
      cases h0
      obtain ⟨l', h1, h2⟩ := bind_iff.1 h
      cases h2
      rw [hopsOf_some h1]
      rfl
    · cases h
def sortHP : List AV → Hp → Option (AV × Hp)
  | [.sl i0 0 n, .fn (.func g) [] []], H => (hget H i0).bind fun b =>
    if g = 62 ∧ b.kd = 1 ∧ b.ro = false ∧ b.k = 3 ∧ n ≤ b.es.length ∧ n < 4611686018427387904 then (hopsOf (b.es.take n)).bind fun d => some (.tup [], H.set i0 (some { b with es := (srtL cfB d).map (aggE hopE) ++ b.es.drop n })) else none
  | _, _ => none
theorem sortH_ok (xs : List AV) (H : Hp) (res : AV) (H' : Hp) (h : sortHP xs H = some (res, H')) : Callable Go.Proofs.Tryz.prog 61 ∧
    ∀ (base : Nat) (M : Nat → Prop) (ρ : Rho) (w : World) (vs : Array Value), GW w → gw0 ≤ base → base ≤ w.heap.size → HR base M ρ H w → Args M ρ w xs vs → Calls Go.Proofs.Tryz.prog 61 vs w (Ans base M ρ H w res H') := by
  refine ⟨⟨_, Go.Proofs.Tryz.func61, by kernel_rfl, by kernel_rfl⟩, fun base M ρ w vs hGw hn hB hH hA => ?_⟩
  unfold sortHP at h
  split at h
  · rename_i i0 n g
    obtain ⟨b, hb, h⟩ := bind_iff.1 h
    by_cases hc : g = 62 ∧ b.kd = 1 ∧ b.ro = false ∧ b.k = 3 ∧ n ≤ b.es.length ∧ n < 4611686018427387904
    · have h2 : ((hopsOf (b.es.take n)).bind fun d => some (AV.tup [], H.set i0 (some { b with es := (srtL cfB d).map (aggE hopE) ++ b.es.drop n }))) = some (res, H') := (if_pos hc).symm.trans h
      clear h
      obtain ⟨rfl, c1, c2, c3, c4, c5⟩ := hc
      obtain ⟨d, hd, h3⟩ := bind_iff.1 h2
      cases h3
      have hd' := hopsOf_some hd
      have hdl : d.length = n := by
        have := congrArg List.length hd'
        simp only [List.length_take, List.length_map] at this
        omega
      subst hdl
      have hb' := hget_some hb
      have h1 : ∀ x, ∀ v ∈ hopE x, v.oneCell' = true := fun x v hv => by
        unfold hopE at hv
        simp only [List.mem_cons, List.not_mem_nil, or_false] at hv
        rcases hv with rfl | rfl | rfl <;> rfl
      exact srtK_ok Go.Proofs.Tryz.sortHop 3 (by decide) Go.Proofs.Tryz.isAgg32 Go.Proofs.Tryz.sizeOf32 hopE (fun _ => rfl) h1 cfB swoB 62 (enters_of Go.Proofs.Tryz.func62 (by kernel_rfl) rfl) hH hb' c2 c1 c3 d hd' c5
        (fun L cb hL hcb => cmp_laysK gw_low sound00 h1 hH hGw hn hB hb' hL c2 (caps := []) (caps' := []) (l := []) rfl (by simp) hcb (fun x y => begin00 x y) d.length) hA
    · rw [if_neg hc] at h; cases h
  · cases h
end Go.Proofs.YtlmjoimjdpfamaaGreat.Ev
