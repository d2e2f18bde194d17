/- charts: a forest of classes, in plain words -/
import Derived.Test.YthaoejicodhgaaaChc
set_option linter.unusedVariables false
set_option linter.unusedSimpArgs false
set_option linter.unusedSectionVars false
set_option maxRecDepth 4000
namespace Go.KL.Ythaoejicodhgaaa
open Go Go.KL Go.RowKit Go.Proofs Go.Sort

/-- one class along the way up, an open one under open ones -/
structure Nice (q : List Ac) : Prop where
  ok : OkQ q
  cs : ∀ k x, look q k = some x → ∀ y, look q x.up = some y → y.cl = x.cl ∧ (y.sh = true → x.sh = true)
section
variable {q : List Ac} {a : Ac} {c : Int} {n : Nat}
theorem nice_nil : Nice [] := ⟨ok_nil, fun k x h => by cases h⟩
theorem Nice.add (h : Nice q) (he : ends (look q) n a.up) : Nice (addR q n a) := by
  refine ⟨(add_next h.ok he).1.1, ?_⟩
  unfold addR
  by_cases h0 : addE (look q) n a = 0
  · rw [if_pos h0]
    obtain ⟨hm, hc, hu, hs⟩ := addE_inv h0
    rw [look_ins hc]
    intro k x hx y hy
    have h00 := h.ok.zero
    have hnz : a.code ≠ 0 := by have := hm.1.1; omega
    unfold upd at hx hy
    by_cases e : k = a.code
    · rw [if_pos e] at hx
      cases hx
      by_cases e2 : a.up = a.code
      · rcases hu with hz | hsome
        · omega
        · rw [e2, hc] at hsome; cases hsome
      · rw [if_neg e2] at hy
        obtain ⟨g1, g2, _⟩ := hs (by rw [hy]; rfl)
        rw [hy] at g1 g2
        exact ⟨g2, fun hsh => by rw [Option.getD_some] at g1; rw [g1] at hsh; cases hsh⟩
    · rw [if_neg e] at hx
      by_cases e2 : x.up = a.code
      · rcases h.ok.clF hx with hz | hsome
        · omega
        · rw [e2, hc] at hsome; cases hsome
      · rw [if_neg e2] at hy
        exact h.cs k x hx y hy
  · rw [if_neg h0]; exact h.cs
theorem up_ne (hok : OkQ q) {k : Int} {x : Ac} (hx : look q k = some x) : x.up ≠ k := fun e => by
  have hs : (look q k).isSome = true := by rw [hx]; rfl
  have h1 := dep_up hok.low hs
  rw [upF, hx, Option.getD_some, e] at h1
  omega
theorem Nice.shut (h : Nice q) : Nice (if shutRE q c = 0 then shR q c else q) := by
  refine ⟨(shut_next h.ok).1.1, ?_⟩
  by_cases he : shutRE q c = 0
  · rw [if_pos he]
    cases hxc : look q c with
    | none => rw [shutRE, hxc] at he; exact absurd he (show ¬ (7 : Int) = 0 by decide)
    | some z =>
      rw [look_shR hxc]
      have hbad : ∀ y ∈ q, badR q c y = false := fun y hy => by
        rw [shutRE, hxc] at he
        simp only at he
        split at he
        · omega
        · split at he
          · omega
          · rename_i hb
            cases hby : badR q c y with
            | false => rfl
            | true => exact absurd (List.any_eq_true.2 ⟨y, hy, hby⟩) hb
      intro k x hx y hy
      unfold upd at hx hy
      by_cases e : k = c
      · rw [if_pos e] at hx
        cases hx
        simp only at hy ⊢
        by_cases e2 : z.up = c
        · exact absurd e2 (up_ne h.ok hxc)
        · rw [if_neg e2] at hy
          exact ⟨(h.cs c z hxc y hy).1, fun _ => trivial⟩
      · rw [if_neg e] at hx
        by_cases e2 : x.up = c
        · rw [if_pos e2] at hy
          cases hy
          refine ⟨(h.cs k x hx z (by rw [e2]; exact hxc)).1, fun _ => ?_⟩
          obtain ⟨hm, hk⟩ := look_mem hx
          have hb := hbad x hm
          have hB : isB (look q) x.code c = true := by
            refine isB_iff.2 ⟨1, ?_, ?_⟩
            · have hs : (look q k).isSome = true := by rw [hx]; rfl
              have h1 := dep_up h.ok.low hs
              rw [upF, hx, Option.getD_some, e2] at h1
              have h2 := dep_pos h.ok.low (k := c) (by rw [hxc]; rfl)
              rw [hk]; omega
            · rw [hk]
              show upF (look q) k = c
              rw [upF, hx]; exact e2
          rw [badR, hB, decide_eq_true (by rw [hk]; exact e)] at hb
          simpa using hb
        · rw [if_neg e2] at hy
          exact h.cs k x hx y hy
  · rw [if_neg he]; exact h.cs
theorem Nice.under (h : Nice q) : ∀ (i : Nat) (k : Int) (x y : Ac), look q k = some x → look q c = some y → climb (look q) i k = c → i < dep (look q) k → x.cl = y.cl ∧ (y.sh = true → x.sh = true)
  | 0, k, x, y, hx, hy, e, _ => by
    have e' : k = c := e
    rw [e', hy] at hx; cases hx; exact ⟨rfl, id⟩
  | i + 1, k, x, y, hx, hy, e, hi => by
    have hs : (look q k).isSome = true := by rw [hx]; rfl
    have h1 := dep_up h.ok.low hs
    have hu : upF (look q) k = x.up := by rw [upF, hx]; rfl
    rw [hu] at h1
    rw [climb, hu] at e
    have hz : (look q x.up).isSome = true := (h.ok.low.ends x.up).2 0 (by omega)
    obtain ⟨z, hz⟩ := Option.isSome_iff_exists.1 hz
    obtain ⟨g1, g2⟩ := h.cs k x hx z hz
    obtain ⟨g3, g4⟩ := Nice.under h i x.up z y hz hy e (by omega)
    exact ⟨g1.symm.trans g3, fun hsh => g2 (g4 hsh)⟩

/-! ## counting -/
theorem mem_und (hok : OkQ q) {k : Int} : k ∈ undL q c q ↔ isB (look q) k c = true := by
  rw [undL, List.mem_map]
  constructor
  · rintro ⟨x, hx, rfl⟩; exact (List.mem_filter.1 hx).2
  · intro hb
    obtain ⟨x, hx⟩ := Option.isSome_iff_exists.1 (isB_some hok.low hb).1
    obtain ⟨h1, rfl⟩ := look_mem hx
    exact ⟨x, List.mem_filter.2 ⟨h1, hb⟩, rfl⟩
theorem und_rise (hok : OkQ q) : (undL q c q).Pairwise (· < ·) := hok.rise.sublist ((List.filter_sublist).map _)
def kids (q : List Ac) (c : Int) (r : List Ac) : Nat := (r.map fun x => if x.up = c then (undL q x.code q).length else 0).sum
theorem kids_snoc {r : List Ac} {i : Nat} (hi : i < r.length) : kids q c (r.take (i + 1)) = kids q c (r.take i) + (if (r[i]!).up = c then (undL q (r[i]!).code q).length else 0) := by
  unfold kids
  rw [take_snA hi, List.map_append, List.sum_append]; simp
theorem und_perm (hok : OkQ q) (m : Nat) (hc : (look q c).isSome = true) (hd : 9 ≤ dep (look q) c + m) : (pre (look q) (q.map Ac.code) m c).Perm (undL q c q) := by
  refine (List.perm_ext_iff_of_nodup (nodup_pre hok.low hok.keys m c hc hd) ((und_rise hok).imp fun h => by omega)).2 fun k => ?_
  rw [mem_pre hok.low hok.keys m c hc hd, mem_und hok]
theorem und_len (hok : OkQ q) (hc : (look q c).isSome = true) : (undL q c q).length = 1 + kids q c q := by
  rw [← (und_perm hok 9 hc (by omega)).length_eq, pre, List.length_cons, List.length_flatMap, List.map_map, Nat.add_comm]
  congr 2
  refine List.map_congr_left fun x hx => ?_
  simp only [Function.comp]
  have hl := look_of hok.rise hx
  have hu : upF (look q) x.code = x.up := by rw [upF, hl]; rfl
  rw [hu]
  by_cases e : x.up = c
  · rw [if_pos e, if_pos e]
    have hs : (look q x.code).isSome = true := by rw [hl]; rfl
    have h1 := dep_up hok.low hs
    rw [hu, e] at h1
    exact (und_perm hok 8 hs (by omega)).length_eq
  · rw [if_neg e, if_neg e]; rfl
theorem und_le : (undL q c q).length ≤ q.length := by
  rw [undL, List.length_map]; exact List.length_filter_le ..
def ups (q : List Ac) (c : Int) (r : List Ac) : Nat := cntA q (dep (look q) c) c r
theorem ups_all (hok : OkQ q) : ups q c q = dep (look q) c := hok.cnt (hok.low.ends c)
theorem kids_le : ∀ (r : List Ac), kids q c r ≤ r.length * q.length
  | [] => by simp [kids]
  | x :: r => by
    have := kids_le r
    rw [kids, List.map_cons, List.sum_cons]
    rw [kids] at this
    have h2 : (if x.up = c then (undL q x.code q).length else 0) ≤ q.length := by split; exact und_le; omega
    rw [List.length_cons, Nat.succ_mul]; omega
theorem rise_at {r : List Int} (h : r.Pairwise (· < ·)) {i : Nat} (hi : i < r.length) (h0 : 0 < i) : r[i - 1]! < r[i]! := by
  rw [getElem!_pos r i hi, getElem!_pos r (i - 1) (by omega)]
  exact List.pairwise_iff_getElem.1 h _ _ (by omega) hi (by omega)
end
end Go.KL.Ythaoejicodhgaaa

/- charts: ChartTree -/
set_option linter.unusedVariables false
set_option linter.unusedSimpArgs false
set_option linter.unusedSectionVars false
set_option maxRecDepth 4000
namespace Go.KL.Ythaoejicodhgaaa
open Go Go.KL Go.RowKit Go.Proofs Go.Sort

theorem c23 : cFun E0.P 23 = some ⟨18, [(4, none)], .seq (.rg [⟨some 4, none, .mv (.k (.bool false))⟩]) (.seq (.seq (.rg [⟨some 5, none, .mv (.k (.int .i64 0))⟩]) (.block 0 (.loop (.seq (.seq (.rg [⟨some 6, none, .mv (.t 5)⟩, ⟨some 7, none, .mv (.t 0)⟩, ⟨some 8, none, .len 1 (.t 7)⟩, ⟨some 9, none, .bin .lss .leaf (.t 6) (.t 8)⟩]) (.cond (.t 9) .skip (.exit 0))) (.seq (.block 1 (.seq (.rg [⟨some 12, none, .mv (.t 0)⟩, ⟨some 13, none, .mv (.t 5)⟩, ⟨some 14, none, .ia 1 (.t 12) (.t 13)⟩, ⟨some 15, none, .ld 1 false (.t 14)⟩, ⟨some 16, none, .mv (.t 1)⟩, ⟨some 17, none, .bin .eql .leaf (.t 15) (.t 16)⟩]) (.cond (.t 17) (.seq (.rg [⟨some 4, none, .mv (.k (.bool true))⟩]) .ret) .skip))) (.rg [⟨some 10, none, .mv (.t 5)⟩, ⟨some 11, none, .bin .add .leaf (.t 10) (.k (.int .i64 1))⟩, ⟨some 5, none, .mv (.t 11)⟩])))))) (.seq (.rg [⟨some 4, none, .mv (.k (.bool false))⟩]) .ret))⟩ := by kernel_rfl
theorem c4 : cFun E0.P 4 = some ⟨214, [(2, none)], .seq (.rg [⟨some 2, none, .mv (.k (.bool false))⟩]) (.seq (.rg [⟨some 15, none, .call 11 []⟩, ⟨some 3, none, .mv (.t 15)⟩]) (.seq (.seq (.rg [⟨some 4, none, .mv (.k (.int .i64 0))⟩]) (.block 0 (.loop (.seq (.seq (.rg [⟨some 16, none, .mv (.t 4)⟩, ⟨some 17, none, .mv (.t 0)⟩, ⟨some 18, none, .len 1 (.t 17)⟩, ⟨some 19, none, .bin .lss .leaf (.t 16) (.t 18)⟩, ⟨some 20, none, .mv (.t 19)⟩, ⟨some 21, some (20, true), .mv (.t 4)⟩, ⟨some 22, some (20, true), .bin .lss .leaf (.t 21) (.k (.int .i64 40))⟩, ⟨some 23, none, .pick (.t 20) (.t 22) (.k (.bool false))⟩]) (.cond (.t 23) .skip (.exit 0))) (.seq (.block 1 (.seq (.seq (.rg [⟨some 26, none, .mv (.t 0)⟩, ⟨some 27, none, .mv (.t 4)⟩, ⟨some 28, none, .ia 6 (.t 26) (.t 27)⟩, ⟨some 29, none, .fa 1 (.t 28)⟩, ⟨some 30, none, .fa 3 (.t 29)⟩, ⟨some 31, none, .ld 1 false (.t 30)⟩, ⟨some 32, none, .len 0 (.t 31)⟩, ⟨some 33, none, .bin .gtr .leaf (.t 32) (.k (.int .i64 200))⟩]) (.cond (.t 33) (.seq (.rg [⟨some 34, none, .call 12 []⟩, ⟨some 2, none, .mv (.t 34)⟩]) .ret) .skip)) (.seq (.rg [⟨some 35, none, .mv (.t 0)⟩, ⟨some 36, none, .mv (.t 4)⟩, ⟨some 37, none, .ia 6 (.t 35) (.t 36)⟩, ⟨some 38, none, .fa 0 (.t 37)⟩, ⟨some 39, none, .ld 1 false (.t 38)⟩]) (.cond (.t 39) (.rg [⟨some 40, none, .mv (.t 3)⟩, ⟨some 41, none, .mv (.t 0)⟩, ⟨some 42, none, .mv (.t 4)⟩, ⟨some 43, none, .ia 6 (.t 41) (.t 42)⟩, ⟨some 44, none, .fa 1 (.t 43)⟩, ⟨some 45, none, .fa 0 (.t 44)⟩, ⟨some 46, none, .ld 1 false (.t 45)⟩, ⟨some 47, none, .call 14 [.t 40, .t 46]⟩]) (.rg [⟨some 48, none, .mv (.t 3)⟩, ⟨some 49, none, .mv (.t 0)⟩, ⟨some 50, none, .mv (.t 4)⟩, ⟨some 51, none, .ia 6 (.t 49) (.t 50)⟩, ⟨some 52, none, .fa 1 (.t 51)⟩, ⟨some 53, none, .ld 5 true (.t 52)⟩, ⟨some 54, none, .call 16 [.t 48, .t 53]⟩]))))) (.rg [⟨some 24, none, .mv (.t 4)⟩, ⟨some 25, none, .bin .add .leaf (.t 24) (.k (.int .i64 1))⟩, ⟨some 4, none, .mv (.t 25)⟩])))))) (.seq (.rg [⟨some 55, none, .mv (.t 3)⟩, ⟨some 56, none, .call 20 [.t 55]⟩, ⟨some 5, none, .mv (.t 56)⟩]) (.seq (.seq (.rg [⟨some 6, none, .mv (.k (.int .i64 0))⟩]) (.block 2 (.loop (.seq (.seq (.rg [⟨some 57, none, .mv (.t 6)⟩, ⟨some 58, none, .mv (.t 5)⟩, ⟨some 59, none, .len 1 (.t 58)⟩, ⟨some 60, none, .bin .lss .leaf (.t 57) (.t 59)⟩]) (.cond (.t 60) .skip (.exit 2))) (.seq (.block 3 (.seq (.rg [⟨some 63, none, .mv (.t 3)⟩, ⟨some 64, none, .mv (.t 5)⟩, ⟨some 65, none, .mv (.t 6)⟩, ⟨some 66, none, .ia 5 (.t 64) (.t 65)⟩, ⟨some 67, none, .fa 0 (.t 66)⟩, ⟨some 68, none, .ld 1 false (.t 67)⟩, ⟨some 69, none, .call 21 [.t 63, .t 68]⟩, ⟨some 7, none, .mv (.t 69)⟩]) (.seq (.rg [⟨some 8, none, .mv (.k (.int .i64 1))⟩]) (.seq (.seq (.rg [⟨some 9, none, .mv (.k (.int .i64 0))⟩]) (.block 4 (.loop (.seq (.seq (.rg [⟨some 70, none, .mv (.t 9)⟩, ⟨some 71, none, .mv (.t 5)⟩, ⟨some 72, none, .len 1 (.t 71)⟩, ⟨some 73, none, .bin .lss .leaf (.t 70) (.t 72)⟩]) (.cond (.t 73) .skip (.exit 4))) (.seq (.block 5 (.seq (.rd [(⟨some 76, none, .mv (.t 5)⟩, none), (⟨some 77, none, .mv (.t 9)⟩, none), (⟨some 78, none, .ia 5 (.t 76) (.t 77)⟩, none), (⟨some 79, none, .fa 1 (.t 78)⟩, none), (⟨some 80, none, .ld 1 false (.t 79)⟩, none), (⟨some 81, none, .mv (.t 5)⟩, none), (⟨some 82, none, .mv (.t 6)⟩, none), (⟨some 83, none, .ia 5 (.t 81) (.t 82)⟩, none), (⟨some 84, none, .fa 0 (.t 83)⟩, none), (⟨some 85, none, .ld 1 false (.t 84)⟩, none), (⟨some 86, none, .bin .eql .leaf (.t 80) (.t 85)⟩, none)]) (.cond (.t 86) (.rg [⟨some 87, none, .mv (.t 8)⟩, ⟨some 88, none, .mv (.t 3)⟩, ⟨some 89, none, .mv (.t 5)⟩, ⟨some 90, none, .mv (.t 9)⟩, ⟨some 91, none, .ia 5 (.t 89) (.t 90)⟩, ⟨some 92, none, .fa 0 (.t 91)⟩, ⟨some 93, none, .ld 1 false (.t 92)⟩, ⟨some 94, none, .call 21 [.t 88, .t 93]⟩, ⟨some 95, none, .len 1 (.t 94)⟩, ⟨some 96, none, .bin .add .leaf (.t 87) (.t 95)⟩, ⟨some 8, none, .mv (.t 96)⟩]) .skip))) (.rg [⟨some 74, none, .mv (.t 9)⟩, ⟨some 75, none, .bin .add .leaf (.t 74) (.k (.int .i64 1))⟩, ⟨some 9, none, .mv (.t 75)⟩])))))) (.seq (.seq (.rd [(⟨some 97, none, .mv (.t 7)⟩, none), (⟨some 98, none, .len 1 (.t 97)⟩, none), (⟨some 99, none, .mv (.t 8)⟩, none), (⟨some 100, none, .bin .neq .leaf (.t 98) (.t 99)⟩, none), (⟨some 101, none, .mv (.t 100)⟩, none), (⟨some 102, some (101, false), .mv (.t 6)⟩, none), (⟨some 103, some (101, false), .bin .gtr .leaf (.t 102) (.k (.int .i64 0))⟩, none), (⟨some 104, some (101, false), .mv (.t 103)⟩, none), (⟨some 105, some (104, true), .mv (.t 5)⟩, none), (⟨some 106, some (104, true), .mv (.t 6)⟩, none), (⟨some 107, some (104, true), .bin .sub .leaf (.t 106) (.k (.int .i64 1))⟩, none), (⟨some 108, some (104, true), .ia 5 (.t 105) (.t 107)⟩, none), (⟨some 109, some (104, true), .fa 0 (.t 108)⟩, none), (⟨some 110, some (104, true), .ld 1 false (.t 109)⟩, none), (⟨some 111, some (104, true), .mv (.t 5)⟩, none), (⟨some 112, some (104, true), .mv (.t 6)⟩, none), (⟨some 113, some (104, true), .ia 5 (.t 111) (.t 112)⟩, none), (⟨some 114, some (104, true), .fa 0 (.t 113)⟩, none), (⟨some 115, some (104, true), .ld 1 false (.t 114)⟩, none), (⟨some 116, some (104, true), .bin .geq .leaf (.t 110) (.t 115)⟩, none), (⟨some 117, some (101, false), .pick (.t 104) (.t 116) (.k (.bool false))⟩, none), (⟨some 118, none, .pick (.t 101) (.k (.bool true)) (.t 117)⟩, none)]) (.cond (.t 118) (.seq (.rg [⟨some 2, none, .mv (.k (.bool false))⟩]) .ret) .skip)) (.seq (.rg [⟨some 10, none, .mv (.k (.int .i64 0))⟩]) (.seq (.seq (.rg [⟨some 11, none, .mv (.k (.int .i64 0))⟩]) (.block 6 (.loop (.seq (.seq (.rg [⟨some 119, none, .mv (.t 11)⟩, ⟨some 120, none, .mv (.t 7)⟩, ⟨some 121, none, .len 1 (.t 120)⟩, ⟨some 122, none, .bin .lss .leaf (.t 119) (.t 121)⟩]) (.cond (.t 122) .skip (.exit 6))) (.seq (.block 7 (.seq (.rg [⟨some 126, none, .mv (.t 3)⟩, ⟨some 127, none, .mv (.t 7)⟩, ⟨some 128, none, .mv (.t 11)⟩, ⟨some 129, none, .ia 1 (.t 127) (.t 128)⟩, ⟨some 130, none, .ld 1 false (.t 129)⟩, ⟨some 131, none, .call 22 [.t 126, .t 130]⟩, ⟨some 125, none, .mv (.t 131)⟩, ⟨some 132, none, .ext 0 (.t 125)⟩, ⟨some 133, none, .ext 1 (.t 125)⟩, ⟨some 12, none, .alloc [.int .i64 0, .int .i64 0, .int .u8 0, .str ⟨#[]⟩, .bool false] 27⟩, ⟨none, none, .st 5 (.t 12) (.t 132)⟩, ⟨some 13, none, .mv (.t 133)⟩]) (.seq (.rd [(⟨some 134, none, .mv (.t 13)⟩, none), (⟨some 135, none, .bin .neq .leaf (.t 134) (.k (.int .i64 0))⟩, none), (⟨some 136, none, .mv (.t 135)⟩, none), (⟨some 137, some (136, false), .fa 2 (.t 12)⟩, none), (⟨some 138, some (136, false), .ld 1 false (.t 137)⟩, none), (⟨some 139, some (136, false), .mv (.t 5)⟩, none), (⟨some 140, some (136, false), .mv (.t 6)⟩, none), (⟨some 141, some (136, false), .ia 5 (.t 139) (.t 140)⟩, none), (⟨some 142, some (136, false), .fa 2 (.t 141)⟩, none), (⟨some 143, some (136, false), .ld 1 false (.t 142)⟩, none), (⟨some 144, some (136, false), .bin .neq .leaf (.t 138) (.t 143)⟩, none), (⟨some 145, none, .pick (.t 136) (.k (.bool true)) (.t 144)⟩, none), (⟨some 146, none, .mv (.t 145)⟩, none), (⟨some 147, some (146, false), .mv (.t 5)⟩, none), (⟨some 148, some (146, false), .mv (.t 6)⟩, none), (⟨some 149, some (146, false), .ia 5 (.t 147) (.t 148)⟩, none), (⟨some 150, some (146, false), .fa 4 (.t 149)⟩, none), (⟨some 151, some (146, false), .ld 1 false (.t 150)⟩, none), (⟨some 152, some (146, false), .mv (.t 151)⟩, none), (⟨some 153, some (152, true), .fa 4 (.t 12)⟩, none), (⟨some 154, some (152, true), .ld 1 false (.t 153)⟩, none), (⟨some 155, some (152, true), .un .not (.t 154)⟩, none), (⟨some 156, some (146, false), .pick (.t 152) (.t 155) (.k (.bool false))⟩, none), (⟨some 157, none, .pick (.t 146) (.k (.bool true)) (.t 156)⟩, none), (⟨some 158, none, .mv (.t 157)⟩, none), (⟨some 159, some (158, false), .mv (.t 11)⟩, none), (⟨some 160, some (158, false), .bin .gtr .leaf (.t 159) (.k (.int .i64 0))⟩, none), (⟨some 161, some (158, false), .mv (.t 160)⟩, none), (⟨some 162, some (161, true), .mv (.t 7)⟩, none), (⟨some 163, some (161, true), .mv (.t 11)⟩, none), (⟨some 164, some (161, true), .bin .sub .leaf (.t 163) (.k (.int .i64 1))⟩, none), (⟨some 165, some (161, true), .ia 1 (.t 162) (.t 164)⟩, none), (⟨some 166, some (161, true), .ld 1 false (.t 165)⟩, none), (⟨some 167, some (161, true), .mv (.t 7)⟩, none), (⟨some 168, some (161, true), .mv (.t 11)⟩, none), (⟨some 169, some (161, true), .ia 1 (.t 167) (.t 168)⟩, none), (⟨some 170, some (161, true), .ld 1 false (.t 169)⟩, none), (⟨some 171, some (161, true), .bin .geq .leaf (.t 166) (.t 170)⟩, none), (⟨some 172, some (158, false), .pick (.t 161) (.t 171) (.k (.bool false))⟩, none), (⟨some 173, none, .pick (.t 158) (.k (.bool true)) (.t 172)⟩, none)]) (.cond (.t 173) (.seq (.rg [⟨some 2, none, .mv (.k (.bool false))⟩]) .ret) .skip)))) (.rg [⟨some 123, none, .mv (.t 11)⟩, ⟨some 124, none, .bin .add .leaf (.t 123) (.k (.int .i64 1))⟩, ⟨some 11, none, .mv (.t 124)⟩])))))) (.seq (.seq (.rg [⟨some 14, none, .mv (.k (.int .i64 0))⟩]) (.block 8 (.loop (.seq (.seq (.rg [⟨some 174, none, .mv (.t 14)⟩, ⟨some 175, none, .mv (.t 5)⟩, ⟨some 176, none, .len 1 (.t 175)⟩, ⟨some 177, none, .bin .lss .leaf (.t 174) (.t 176)⟩]) (.cond (.t 177) .skip (.exit 8))) (.seq (.block 9 (.seq (.rd [(⟨some 180, none, .mv (.t 3)⟩, none), (⟨some 181, none, .mv (.t 5)⟩, none), (⟨some 182, none, .mv (.t 14)⟩, none), (⟨some 183, none, .ia 5 (.t 181) (.t 182)⟩, none), (⟨some 184, none, .fa 0 (.t 183)⟩, none), (⟨some 185, none, .ld 1 false (.t 184)⟩, none), (⟨some 186, none, .call 21 [.t 180, .t 185]⟩, none), (⟨some 187, none, .mv (.t 5)⟩, none), (⟨some 188, none, .mv (.t 6)⟩, none), (⟨some 189, none, .ia 5 (.t 187) (.t 188)⟩, none), (⟨some 190, none, .fa 0 (.t 189)⟩, none), (⟨some 191, none, .ld 1 false (.t 190)⟩, none), (⟨some 192, none, .call 23 [.t 186, .t 191]⟩, some [])]) (.cond (.t 192) (.rg [⟨some 193, none, .mv (.t 10)⟩, ⟨some 194, none, .bin .add .leaf (.t 193) (.k (.int .i64 1))⟩, ⟨some 10, none, .mv (.t 194)⟩]) .skip))) (.rg [⟨some 178, none, .mv (.t 14)⟩, ⟨some 179, none, .bin .add .leaf (.t 178) (.k (.int .i64 1))⟩, ⟨some 14, none, .mv (.t 179)⟩])))))) (.seq (.rg [⟨some 195, none, .mv (.t 10)⟩, ⟨some 196, none, .bin .lss .leaf (.t 195) (.k (.int .i64 1))⟩, ⟨some 197, none, .mv (.t 196)⟩, ⟨some 198, some (197, false), .mv (.t 10)⟩, ⟨some 199, some (197, false), .bin .gtr .leaf (.t 198) (.k (.int .i64 8))⟩, ⟨some 200, none, .pick (.t 197) (.k (.bool true)) (.t 199)⟩, ⟨some 201, none, .mv (.t 200)⟩, ⟨some 202, some (201, false), .mv (.t 3)⟩, ⟨some 203, some (201, false), .mv (.t 5)⟩, ⟨some 204, some (201, false), .mv (.t 6)⟩, ⟨some 205, some (201, false), .ia 5 (.t 203) (.t 204)⟩, ⟨some 206, some (201, false), .fa 0 (.t 205)⟩, ⟨some 207, some (201, false), .ld 1 false (.t 206)⟩, ⟨some 208, some (201, false), .call 24 [.t 202, .t 207]⟩, ⟨some 209, some (201, false), .mv (.t 8)⟩, ⟨some 210, some (201, false), .bin .eql .leaf (.t 209) (.k (.int .i64 1))⟩, ⟨some 211, some (201, false), .bin .neq .leafB (.t 208) (.t 210)⟩, ⟨some 212, none, .pick (.t 201) (.k (.bool true)) (.t 211)⟩]) (.cond (.t 212) (.seq (.rg [⟨some 2, none, .mv (.k (.bool false))⟩]) .ret) .skip)))))))))) (.rg [⟨some 61, none, .mv (.t 6)⟩, ⟨some 62, none, .bin .add .leaf (.t 61) (.k (.int .i64 1))⟩, ⟨some 6, none, .mv (.t 62)⟩])))))) (.seq (.rg [⟨some 213, none, .call 12 []⟩, ⟨some 2, none, .mv (.t 213)⟩]) .ret)))))⟩ := by kernel_rfl

theorem has_p (l : List Int) (n : Int) (hl : l.length < 1000000) : Pure 23 [.sl (i64s l), .int .i64 n] (.bool (decide (n ∈ l))) := by
  intro S tk
  have la := i64s_len l
  refine ACalls.fgo c23 rfl fun hS => ?_
  repeat' first | with_reducible refine fzD_ite (fun q => ?_) (fun q => ?_) | ((try conv => whnf); first
    | refine bs_d (fun q => ?_) (fun q => ?_)
    | refine bs_n ?_
    | refine bs_i (fun q => ?_) (fun q => ?_)
    | refine eqk rfl ?_
    | refine ffin _ rfl rfl hS (Sub.refl _) rfl ⟨?_, rfl, rfl⟩)
  refine floop (α := Nat) rfl rfl hS (fun i => i ≤ l.length ∧ n ∉ l.take i) (fun i => l.length - i) (fun i => [(5, .d (.int .i64 i)), (0, .d (.sl (i64s l))), (1, .d (.int .i64 n))]) (fun _ => []) (fun _ => []) 0 ⟨Nat.zero_le _, by simp⟩ (fstep_sub ⟨Sub.refl _, Sub.refl _, Sub.refl _, trivial⟩) ?_
  rintro i ⟨h1, h2⟩
  repeat' first | with_reducible refine fzD_ite (fun q => ?_) (fun q => ?_) | ((try conv => whnf); first
    | refine bs_d (fun q => ?_) (fun q => ?_) <;> (try simp (disch := ((try unfold I64); omega)) only [wi64_id, td] at q)
    | refine bs_n ?_
    | refine bs_i (fun q => ?_) (fun q => ?_)
    | refine pK_i (iaD_i (i := i) (by first | rfl | omega | (refine Int.sub_eq_zero.mp ?_; simp (disch := ((try unfold I64); omega)) only [wi64_id, td]; omega)) (by omega)) ?_
    | refine eqk rfl ?_
    | refine ffin _ rfl rfl hS (Sub.refl _) rfl ⟨?_, rfl, rfl⟩)
  · refine congrArg D.bool (decide_eq_true ?_).symm
    have hi : i < l.length := by omega
    rw [← q, getElem!_pos l i hi]; exact List.getElem_mem _
  · have hi : i < l.length := by omega
    conv => whnf
    refine fnext (α := Nat) (i + 1) ⟨by omega, ?_⟩ (by omega) (fstep_sub ⟨Sub.int (by rw [wi64_id]; omega; unfold I64; omega), Sub.refl _, Sub.refl _, trivial⟩)
    rw [take_snA hi, List.mem_append]
    rintro (h | h)
    · exact h2 h
    · rw [List.mem_singleton] at h; exact q h.symm
  · rw [List.take_of_length_le (by omega)] at h2
    exact congrArg D.bool (decide_eq_false h2).symm

structure RX where
  i : Nat
  q : List Ac
  o : O
structure RX.P (l : List Act) (s : RX) : Prop where
  i : s.i ≤ l.length ∧ s.i ≤ 40
  q : s.q.length ≤ s.i
  ok : Nice s.q
  ch : Ch (look s.q) s.o
structure KX where
  k : Nat
  n : Nat
set_option maxHeartbeats 4000000 in
theorem chartTree (l : List Act) : Pure 4 [.sl (actsL l)] (.bool true) := by
  intro S tk
  have la := actsL_len l
  refine ACalls.fgoC c4 rfl [2, 25] rfl fun hS => ?_
  repeat' first | with_reducible refine fzD_ite (fun q => ?_) (fun q => ?_) | ((try conv => whnf); first
    | refine bs_d (fun q => ?_) (fun q => ?_)
    | refine bs_n ?_
    | refine bs_i (fun q => ?_) (fun q => ?_)
    | refine ckN (d := .po (S.length + 1) 0) (Jn := [.map ktI (entKv []) 0, .arr [.map S.length]]) rfl rfl (by have := new_at S tk; rw [List.append_nil, List.append_nil]; exact this) ?_
    | refine eqk rfl ?_
    | refine ffin _ rfl rfl hS (Sub.refl _) rfl ⟨?_, rfl, rfl⟩)
  refine fcut (α := RX) rfl (fun s => s.q.length ≤ 40 ∧ Nice s.q ∧ Ch (look s.q) s.o) (fun s => [(3, .d (.po (S.length + 1) 0))]) (fun _ => S) (fun s => [s.o, .arr [.map S.length]]) (fun _ => []) (fun _ _ => ⟨rfl, hS⟩) ?_ ?_
  · skip
    repeat' first | with_reducible refine fzD_ite (fun q => ?_) (fun q => ?_) | ((try conv => whnf); first
      | refine bs_d (fun q => ?_) (fun q => ?_)
      | refine bs_n ?_
      | refine bs_i (fun q => ?_) (fun q => ?_)
      | refine eqk rfl ?_
      | refine ffin _ rfl rfl hS (Sub.refl _) rfl ⟨?_, rfl, rfl⟩)
    refine floop (α := RX) rfl rfl hS (RX.P l) (fun s => l.length - s.i) (fun s => [(4, .d (.int .i64 s.i)), (3, .d (.po (S.length + 1) 0)), (0, .d (.sl (actsL l)))]) (fun s => [s.o, .arr [.map S.length]]) (fun _ => []) ⟨0, [], .map ktI (entKv []) 0⟩ ⟨⟨Nat.zero_le _, Nat.zero_le _⟩, Nat.le_refl _, nice_nil, ch_new⟩ (fstep_sub ⟨Sub.refl _, Sub.refl _, Sub.refl _, trivial⟩) ?_
    intro s hs
    obtain ⟨h1, h2⟩ := hs.i
    have hq := hs.q
    have hnice := hs.ok
    have hok := hnice.ok
    have hch := hs.ch
    have hql : s.q.length < 1000000 := by omega
    obtain ⟨⟨okS, lenS⟩, chS⟩ := shut_next (c := (l[s.i]!).a.code) hok
    have he := hok.low.ends (l[s.i]!).a.up
    obtain ⟨⟨okA, lenA⟩, chA⟩ := add_next (a := (l[s.i]!).a) hok he
    have hd := add_hd (a := (l[s.i]!).a) hok he
    have hn : dep (look s.q) (l[s.i]!).a.up < 1000000 := by have := depF_le (look s.q) 8 (l[s.i]!).a.up; unfold dep; omega
    have kL : (s.q.map Ac.code).length < 1000000 := by rw [List.length_map]; exact hql
    have uS := hok.und hql (l[s.i]!).a.code
    repeat' first | with_reducible refine fzD_ite (fun q => ?_) (fun q => ?_) | ((try conv => whnf); first
      | refine bs_d (fun q => ?_) (fun q => ?_) <;> (try simp (disch := ((try unfold I64); omega)) only [wi64_id, td] at q)
      | refine bs_n ?_
      | refine bs_i (fun q => ?_) (fun q => ?_)
      | refine ck (by first | rfl | simp) rfl (head19) ?_
      | refine cq (head19) ?_
      | refine pK_i (iaD_act (i := s.i) (by first | rfl | omega | (refine Int.sub_eq_zero.mp ?_; simp (disch := ((try unfold I64); omega)) only [wi64_id, td]; omega)) (by omega)) ?_
      | (refine ckJE (k := 0) (ds' := [.po (S.length + 1) 0, acD (l[s.i]!).a]) rfl rfl (add_c (cid := S.length + 1) (mid := S.length + 0) (f := look s.q) hch (at_own rfl rfl) (at_own (k := 0) rfl rfl) (l[s.i]!).a _ hn hd) (SubL.refl _) ?_; rintro r o2 ⟨rfl, ch2⟩)
      | (refine ckJE (k := 0) (ds' := [.po (S.length + 1) 0, .int .i64 (l[s.i]!).a.code]) rfl rfl (shut_c (cid := S.length + 1) (mid := S.length + 0) (f := look s.q) hch (at_own rfl rfl) (at_own (k := 0) rfl rfl) hok.keys kL (l[s.i]!).a.code uS) (SubL.refl _) ?_; rintro r o2 ⟨rfl, ch2⟩)
      | refine eqk rfl ?_
      | refine ffin _ rfl rfl hS (Sub.refl _) rfl ⟨?_, rfl, rfl⟩)
    · rfl
    · conv => whnf
      refine fnext (α := RX) ⟨s.i + 1, if shutRE s.q (l[s.i]!).a.code = 0 then shR s.q (l[s.i]!).a.code else s.q, o2⟩ ⟨⟨by simp only; omega, by simp only; omega⟩, by simp only; omega, hnice.shut, chS _ ch2⟩ (by simp only; omega) ?_
      exact fstep_J rfl ⟨Sub.int (by simp only; rw [wi64_id]; omega; unfold I64; omega), Sub.refl _, Sub.refl _, trivial⟩
    · conv => whnf
      refine fnext (α := RX) ⟨s.i + 1, addR s.q (dep (look s.q) (l[s.i]!).a.up) (l[s.i]!).a, o2⟩ ⟨⟨by simp only; omega, by simp only; omega⟩, by simp only; omega, hnice.add he, chA _ ch2⟩ (by simp only; omega) ?_
      exact fstep_J rfl ⟨Sub.int (by simp only; rw [wi64_id]; omega; unfold I64; omega), Sub.refl _, Sub.refl _, trivial⟩
    · conv => whnf
      exact fcnext (α := RX) s ⟨by omega, hnice, hch⟩ rfl (fstep_sub ⟨Sub.refl _, trivial⟩)
    · conv => whnf
      exact fcnext (α := RX) s ⟨by omega, hnice, hch⟩ rfl (fstep_sub ⟨Sub.refl _, trivial⟩)
  rintro s ⟨hq, hnice, hch⟩
  have hok := hnice.ok
  have hql : s.q.length < 1000000 := by omega
  have kL : (s.q.map Ac.code).length < 1000000 := by rw [List.length_map]; exact hql
  have all := fun (J : List O) (tk : Tks) (hc) (hm) => all_c (cid := S.length + 1) (mid := S.length + 0) (S := S ++ J) (tk := tk) hch hc hm hok.keys kL
  rw [hok.all] at all
  have lq := acsL_len s.q
  repeat' first | with_reducible refine fzD_ite (fun q => ?_) (fun q => ?_) | ((try conv => whnf); first
    | refine bs_d (fun q => ?_) (fun q => ?_)
    | refine bs_n ?_
    | refine bs_i (fun q => ?_) (fun q => ?_)
    | refine ckA rfl rfl (all _ _ (at_own rfl rfl) (at_own (k := 0) rfl rfl)) ?_
    | refine eqk rfl ?_
    | refine ffin _ rfl rfl hS (Sub.refl _) rfl ⟨?_, rfl, rfl⟩)
  refine floop (α := Nat) rfl rfl hS (fun i => i ≤ s.q.length) (fun i => s.q.length - i) (fun i => [(6, .d (.int .i64 i)), (5, .d (.sl (acsL s.q))), (3, .d (.po (S.length + 1) 0))]) (fun _ => [s.o, .arr [.map S.length]]) (fun _ => []) 0 (Nat.zero_le _) (fstep_sub ⟨Sub.refl _, Sub.refl _, Sub.refl _, trivial⟩) ?_
  intro i h1
  repeat' first | with_reducible refine fzD_ite (fun q => ?_) (fun q => ?_) | ((try conv => whnf); first
    | refine bs_d (fun q => ?_) (fun q => ?_) <;> (try simp (disch := ((try unfold I64); omega)) only [wi64_id, td] at q)
    | refine bs_n ?_
    | refine bs_i (fun q => ?_) (fun q => ?_)
    | refine ck (by first | rfl | simp) rfl (head19) ?_
    | refine cq (head19) ?_
    | refine pK_i (iaD_ac (i := i) (by first | rfl | omega | (refine Int.sub_eq_zero.mp ?_; simp (disch := ((try unfold I64); omega)) only [wi64_id, td]; omega)) (by omega)) ?_
    | refine ckA rfl rfl (under_c (cid := S.length + 1) (mid := S.length + 0) hch (at_own rfl rfl) (at_own (k := 0) rfl rfl) hok.keys kL (s.q[i]!).code (hok.und hql _)) ?_
    | refine eqk rfl ?_
    | refine ffin _ rfl rfl hS (Sub.refl _) rfl ⟨?_, rfl, rfl⟩)
  rotate_left
  · rfl
  have hi : i < s.q.length := by omega
  have hc : (look s.q (s.q[i]!).code).isSome = true := by
    rw [look_of hok.rise (show s.q[i]! ∈ s.q by rw [getElem!_pos s.q i hi]; exact List.getElem_mem _)]; rfl
  have hcx : look s.q (s.q[i]!).code = some s.q[i]! := look_of hok.rise (by rw [getElem!_pos s.q i hi]; exact List.getElem_mem _)
  have ulen := und_len hok hc
  have ule := und_le (q := s.q) (c := (s.q[i]!).code)
  have ulen2 := i64s_len (undL s.q (s.q[i]!).code s.q)
  conv => whnf
  refine floop (α := Nat) rfl rfl hS (fun k => k ≤ s.q.length) (fun k => s.q.length - k) (fun k => [(9, .d (.int .i64 k)), (8, .d (.int .i64 ((1 + kids s.q (s.q[i]!).code (s.q.take k) : Nat) : Int))), (7, .d (.sl (i64s (undL s.q (s.q[i]!).code s.q)))), (6, .d (.int .i64 i)), (5, .d (.sl (acsL s.q))), (3, .d (.po (S.length + 1) 0))]) (fun _ => [s.o, .arr [.map S.length]]) (fun _ => []) 0 (Nat.zero_le _) (fstep_sub ⟨Sub.refl _, Sub.refl _, Sub.refl _, Sub.refl _, Sub.refl _, Sub.refl _, trivial⟩) ?_
  intro k hk1
  have kl := kids_le (q := s.q) (c := (s.q[i]!).code) (s.q.take k)
  have ks := fun h => kids_snoc (q := s.q) (c := (s.q[i]!).code) (r := s.q) (i := k) h
  have kb : kids s.q (s.q[i]!).code (s.q.take k) ≤ 1600 := by
    refine Nat.le_trans kl (Nat.le_trans (Nat.mul_le_mul (List.length_take_le ..) hq) ?_)
    omega
  have ule2 := und_le (q := s.q) (c := (s.q[k]!).code)
  have ulen3 := i64s_len (undL s.q (s.q[k]!).code s.q)
  repeat' first | with_reducible refine fzD_ite (fun q => ?_) (fun q => ?_) | ((try conv => whnf); first
    | refine bs_d (fun q => ?_) (fun q => ?_) <;> (try simp (disch := ((try unfold I64); omega)) only [wi64_id, td] at q)
    | refine bs_n ?_
    | refine bs_i (fun q => ?_) (fun q => ?_)
    | refine ck (by first | rfl | simp) rfl (head19) ?_
    | refine cq (head19) ?_
    | refine pK_i (iaD_ac (i := k) (by first | rfl | omega | (refine Int.sub_eq_zero.mp ?_; simp (disch := ((try unfold I64); omega)) only [wi64_id, td]; omega)) (by omega)) ?_
    | refine pK_i (iaD_ac (i := i) (by first | rfl | omega | (refine Int.sub_eq_zero.mp ?_; simp (disch := ((try unfold I64); omega)) only [wi64_id, td]; omega)) (by omega)) ?_
    | refine ckA rfl rfl (under_c (cid := S.length + 1) (mid := S.length + 0) hch (at_own rfl rfl) (at_own (k := 0) rfl rfl) hok.keys kL (s.q[k]!).code (hok.und hql _)) ?_
    | refine eqk rfl ?_
    | refine ffin _ rfl rfl hS (Sub.refl _) rfl ⟨?_, rfl, rfl⟩)
  · conv => whnf
    refine fnext (α := Nat) (k + 1) (by omega) (by omega) (fstep_sub ⟨Sub.int (by rw [wi64_id]; omega; unfold I64; omega), Sub.int (by rw [ks (by omega), if_pos (by assumption), wi64_id]; omega; unfold I64; omega), Sub.refl _, Sub.refl _, Sub.refl _, Sub.refl _, trivial⟩)
  · conv => whnf
    refine fnext (α := Nat) (k + 1) (by omega) (by omega) (fstep_sub ⟨Sub.int (by rw [wi64_id]; omega; unfold I64; omega), Sub.int (by rw [ks (by omega), if_neg (by assumption)]; omega), Sub.refl _, Sub.refl _, Sub.refl _, Sub.refl _, trivial⟩)
  have hkq : s.q.length ≤ k := by omega
  rw [List.take_of_length_le hkq] at kb ⊢
  have hr : 0 < i → (s.q[i - 1]!).code < (s.q[i]!).code := fun h0 => by
    have := rise_at hok.rise (i := i) (by rw [List.length_map]; exact hi) h0
    rw [getElem!_pos _ i (by rw [List.length_map]; exact hi), getElem!_pos _ (i - 1) (by rw [List.length_map]; omega)] at this
    rw [getElem!_pos s.q i hi, getElem!_pos s.q (i - 1) (by omega)]
    simpa using this
  conv => whnf
  refine fcut (α := Unit) rfl (fun _ => True) (fun _ => [(8, .d (.int .i64 ((1 + kids s.q (s.q[i]!).code s.q : Nat) : Int))), (7, .d (.sl (i64s (undL s.q (s.q[i]!).code s.q)))), (6, .d (.int .i64 i)), (5, .d (.sl (acsL s.q))), (3, .d (.po (S.length + 1) 0))]) (fun _ => S) (fun _ => [s.o, .arr [.map S.length]]) (fun _ => []) (fun _ _ => ⟨rfl, hS⟩) ?_ ?_
  · skip
    repeat' first | with_reducible refine fzD_ite (fun q => ?_) (fun q => ?_) | ((try conv => whnf); first
      | refine bs_d (fun q => ?_) (fun q => ?_) <;> (try simp (disch := ((try unfold I64); omega)) only [wi64_id, td] at q)
      | refine bs_n ?_
      | refine bs_i (fun q => ?_) (fun q => ?_)
      | refine pK_i (iaD_ac (i := i) (by first | rfl | omega | (refine Int.sub_eq_zero.mp ?_; simp (disch := ((try unfold I64); omega)) only [wi64_id, td]; omega)) (by omega)) ?_
      | refine pK_i (iaD_ac (i := i - 1) (by first | rfl | omega | (refine Int.sub_eq_zero.mp ?_; simp (disch := ((try unfold I64); omega)) only [wi64_id, td]; omega)) (by omega)) ?_
      | refine eqk rfl ?_
      | refine ffin _ rfl rfl hS (Sub.refl _) rfl ⟨?_, rfl, rfl⟩)
    · have := hr (by omega); omega
    · conv => whnf
      exact fcnext (α := Unit) () trivial rfl (fstep_sub ⟨Sub.refl _, Sub.refl _, Sub.refl _, Sub.refl _, Sub.refl _, trivial⟩)
    · conv => whnf
      exact fcnext (α := Unit) () trivial rfl (fstep_sub ⟨Sub.refl _, Sub.refl _, Sub.refl _, Sub.refl _, Sub.refl _, trivial⟩)
    · exact absurd (show ((i64s (undL s.q (s.q[i]!).code s.q)).length : Int) = ((1 + kids s.q (s.q[i]!).code s.q : Nat) : Int) by omega) (by assumption)
  intro _ _
  clear ks kl
  repeat' first | with_reducible refine fzD_ite (fun q => ?_) (fun q => ?_) | ((try conv => whnf); first
    | refine bs_d (fun q => ?_) (fun q => ?_) <;> (try simp (disch := ((try unfold I64); omega)) only [wi64_id, td] at q)
    | refine bs_n ?_
    | refine bs_i (fun q => ?_) (fun q => ?_)
    | refine eqk rfl ?_
    | refine ffin _ rfl rfl hS (Sub.refl _) rfl ⟨?_, rfl, rfl⟩)
  generalize hU : undL s.q (s.q[i]!).code s.q = U at *
  have hUm : ∀ m, m < U.length → ∃ x, look s.q U[m]! = some x ∧ x.cl = (s.q[i]!).cl ∧ ((s.q[i]!).sh = true → x.sh = true) := fun m hm => by
    have hmem : U[m]! ∈ U := by rw [getElem!_pos U m hm]; exact List.getElem_mem _
    rw [← hU] at hmem
    have hb := (mem_und hok).1 hmem
    obtain ⟨x, hx⟩ := Option.isSome_iff_exists.1 (isB_some hok.low hb).1
    obtain ⟨j, j1, j2⟩ := isB_iff.1 hb
    rw [hU] at hx
    rw [hU] at j1 j2
    exact ⟨x, hx, hnice.under j _ x _ hx hcx j2 j1⟩
  have hUr : ∀ m, 0 < m → m < U.length → U[m - 1]! < U[m]! := fun m h0 hm => by
    have := und_rise (c := (s.q[i]!).code) hok
    rw [hU] at this
    exact rise_at this hm h0
  refine floop (α := Nat) rfl rfl hS (fun m => m ≤ U.length) (fun m => U.length - m) (fun m => [(11, .d (.int .i64 m)), (10, .d (.int .i64 0)), (8, .d (.int .i64 ((1 + kids s.q (s.q[i]!).code s.q : Nat) : Int))), (7, .d (.sl (i64s U))), (6, .d (.int .i64 i)), (5, .d (.sl (acsL s.q))), (3, .d (.po (S.length + 1) 0))]) (fun _ => [s.o, .arr [.map S.length]]) (fun _ => []) 0 (Nat.zero_le _) (fstep_sub ⟨Sub.refl _, Sub.refl _, Sub.refl _, Sub.refl _, Sub.refl _, Sub.refl _, Sub.refl _, trivial⟩) ?_
  intro m hm1
  by_cases hm : m < U.length
  · obtain ⟨x, hx, hxc, hxs⟩ := hUm m hm
    have gv : getF (look s.q) U[m]! = .tup [.agg x.cs, .int .i64 0] := by rw [getF, hx]; rfl
    have hmr := hUr m
    repeat' first | with_reducible refine fzD_ite (fun q => ?_) (fun q => ?_) | ((try conv => whnf); first
      | refine bs_d (fun q => ?_) (fun q => ?_) <;> (try simp (disch := ((try unfold I64); omega)) only [wi64_id, td] at q)
      | refine bs_n ?_
      | refine bs_i (fun q => ?_) (fun q => ?_)
      | refine pK_i (iaD_i (l := U) (i := m) (by first | rfl | omega | (refine Int.sub_eq_zero.mp ?_; simp (disch := ((try unfold I64); omega)) only [wi64_id, td]; omega)) (by omega)) ?_
      | refine pK_i (iaD_i (l := U) (i := m - 1) (by first | rfl | omega | (refine Int.sub_eq_zero.mp ?_; simp (disch := ((try unfold I64); omega)) only [wi64_id, td]; omega)) (by omega)) ?_
      | refine pK_i (iaD_ac (i := i) (by first | rfl | omega | (refine Int.sub_eq_zero.mp ?_; simp (disch := ((try unfold I64); omega)) only [wi64_id, td]; omega)) (by omega)) ?_
      | (refine ckA rfl rfl (get_c (cid := S.length + 1) (mid := S.length + 0) hch (at_own rfl rfl) (at_own (k := 0) rfl rfl) U[m]!) ?_; rw [gv])
      | refine eqk rfl ?_
      | refine ffin _ rfl rfl hS (Sub.refl _) rfl ⟨?_, rfl, rfl⟩)
    · exact absurd (hmr (by omega) hm) (by omega)
    · conv => whnf
      refine fnext (α := Nat) (m + 1) (by omega) (by omega) ?_
      exact fstep_drop (J' := [s.o, .arr [.map S.length]]) (Jx := [_]) (TK' := []) (TKx := []) rfl rfl ⟨Sub.int (by rw [wi64_id]; omega; unfold I64; omega), Sub.refl _, Sub.refl _, Sub.refl _, Sub.refl _, Sub.refl _, Sub.refl _, trivial⟩ (by simp [frSc, frD, FD.to, D.sc, sc_acsL, sc_i64s]) (ch_oc hch (by simp only [List.length_cons, List.length_nil]; omega))
    · conv => whnf
      refine fnext (α := Nat) (m + 1) (by omega) (by omega) ?_
      exact fstep_drop (J' := [s.o, .arr [.map S.length]]) (Jx := [_]) (TK' := []) (TKx := []) rfl rfl ⟨Sub.int (by rw [wi64_id]; omega; unfold I64; omega), Sub.refl _, Sub.refl _, Sub.refl _, Sub.refl _, Sub.refl _, Sub.refl _, trivial⟩ (by simp [frSc, frD, FD.to, D.sc, sc_acsL, sc_i64s]) (ch_oc hch (by simp only [List.length_cons, List.length_nil]; omega))
    · rename_i q
      rw [hxs (by assumption)] at q; cases q
    · exact absurd (hmr (by omega) hm) (by omega)
    · conv => whnf
      refine fnext (α := Nat) (m + 1) (by omega) (by omega) ?_
      exact fstep_drop (J' := [s.o, .arr [.map S.length]]) (Jx := [_]) (TK' := []) (TKx := []) rfl rfl ⟨Sub.int (by rw [wi64_id]; omega; unfold I64; omega), Sub.refl _, Sub.refl _, Sub.refl _, Sub.refl _, Sub.refl _, Sub.refl _, trivial⟩ (by simp [frSc, frD, FD.to, D.sc, sc_acsL, sc_i64s]) (ch_oc hch (by simp only [List.length_cons, List.length_nil]; omega))
    · conv => whnf
      refine fnext (α := Nat) (m + 1) (by omega) (by omega) ?_
      exact fstep_drop (J' := [s.o, .arr [.map S.length]]) (Jx := [_]) (TK' := []) (TKx := []) rfl rfl ⟨Sub.int (by rw [wi64_id]; omega; unfold I64; omega), Sub.refl _, Sub.refl _, Sub.refl _, Sub.refl _, Sub.refl _, Sub.refl _, trivial⟩ (by simp [frSc, frD, FD.to, D.sc, sc_acsL, sc_i64s]) (ch_oc hch (by simp only [List.length_cons, List.length_nil]; omega))
    · exact absurd hxc (by assumption)
    · exfalso; omega
  repeat' first | with_reducible refine fzD_ite (fun q => ?_) (fun q => ?_) | ((try conv => whnf); first
    | refine bs_d (fun q => ?_) (fun q => ?_) <;> (try simp (disch := ((try unfold I64); omega)) only [wi64_id, td] at q)
    | refine bs_n ?_
    | refine bs_i (fun q => ?_) (fun q => ?_)
    | refine eqk rfl ?_
    | refine ffin _ rfl rfl hS (Sub.refl _) rfl ⟨?_, rfl, rfl⟩)
  · exfalso; omega
  have uU := hok.und hql (s.q[i]!).code
  rw [hU] at uU
  have hdp := dep_pos hok.low hc
  have hd8 : dep (look s.q) (s.q[i]!).code ≤ 8 := depF_le _ 8 _
  conv => whnf
  refine floop (α := Nat) rfl rfl hS (fun k => k ≤ s.q.length) (fun k => s.q.length - k) (fun k => [(14, .d (.int .i64 k)), (10, .d (.int .i64 (ups s.q (s.q[i]!).code (s.q.take k)))), (8, .d (.int .i64 ((1 + kids s.q (s.q[i]!).code s.q : Nat) : Int))), (6, .d (.int .i64 i)), (5, .d (.sl (acsL s.q))), (3, .d (.po (S.length + 1) 0))]) (fun _ => [s.o, .arr [.map S.length]]) (fun _ => []) 0 (Nat.zero_le _) (fstep_sub ⟨Sub.refl _, Sub.refl _, Sub.refl _, Sub.refl _, Sub.refl _, Sub.refl _, trivial⟩) ?_
  intro n hn1
  have us := fun h => cntA_snoc s.q (dep (look s.q) (s.q[i]!).code) (s.q[i]!).code (r := s.q) (i := n) h
  have ub : ups s.q (s.q[i]!).code (s.q.take n) ≤ 40 := by
    refine Nat.le_trans (List.length_filter_le ..) (Nat.le_trans (List.length_take_le ..) (by omega))
  have um := mem_und hok (c := (s.q[n]!).code) (k := (s.q[i]!).code)
  unfold isB at um
  have ul3 := und_le (q := s.q) (c := (s.q[n]!).code)
  have ue : s.q.length ≤ n → ups s.q (s.q[i]!).code (s.q.take n) = dep (look s.q) (s.q[i]!).code := fun h => by rw [List.take_of_length_le h]; exact ups_all hok
  repeat' first | with_reducible refine fzD_ite (fun q => ?_) (fun q => ?_) | ((try conv => whnf); first
    | refine bs_d (fun q => ?_) (fun q => ?_) <;> (try simp (disch := ((try unfold I64); omega)) only [wi64_id, td] at q)
    | refine bs_n ?_
    | refine bs_i (fun q => ?_) (fun q => ?_)
    | refine pK_i (iaD_ac (i := n) (by first | rfl | omega | (refine Int.sub_eq_zero.mp ?_; simp (disch := ((try unfold I64); omega)) only [wi64_id, td]; omega)) (by omega)) ?_
    | refine pK_i (iaD_ac (i := i) (by first | rfl | omega | (refine Int.sub_eq_zero.mp ?_; simp (disch := ((try unfold I64); omega)) only [wi64_id, td]; omega)) (by omega)) ?_
    | refine cqA (under_c (cid := S.length + 1) (mid := S.length + 0) hch (at_own rfl rfl) (at_own (k := 0) rfl rfl) hok.keys kL (s.q[n]!).code (hok.und hql _)) ?_
    | refine ck (by first | rfl | simp) rfl (has_p (undL s.q (s.q[n]!).code s.q) (s.q[i]!).code (by omega)) ?_
    | refine cq (has_p (undL s.q (s.q[n]!).code s.q) (s.q[i]!).code (by omega)) ?_
    | refine ckA rfl rfl (leaf_c (cid := S.length + 1) (mid := S.length + 0) hch (at_own rfl rfl) (at_own (k := 0) rfl rfl) hok.keys kL (s.q[i]!).code uU) ?_
    | refine eqk rfl ?_
    | refine ffin _ rfl rfl hS (Sub.refl _) rfl ⟨?_, rfl, rfl⟩)
  · rename_i q
    have us2 := us (by omega)
    rw [if_pos (um.1 q)] at us2
    conv => whnf
    refine fnext (α := Nat) (n + 1) (by omega) (by omega) (fstep_sub ⟨Sub.int (by rw [wi64_id]; omega; unfold I64; omega), Sub.int ?_, Sub.refl _, Sub.refl _, Sub.refl _, Sub.refl _, trivial⟩)
    unfold ups at ub ⊢
    rw [us2, wi64_id]; omega; unfold I64; omega
  · rename_i q
    have us2 := us (by omega)
    rw [if_neg (fun hb => q (um.2 hb))] at us2
    conv => whnf
    refine fnext (α := Nat) (n + 1) (by omega) (by omega) (fstep_sub ⟨Sub.int (by rw [wi64_id]; omega; unfold I64; omega), Sub.int ?_, Sub.refl _, Sub.refl _, Sub.refl _, Sub.refl _, trivial⟩)
    unfold ups at ub ⊢
    rw [us2]; omega
  · exfalso; have := ue (by omega); omega
  · exfalso; have := ue (by omega); omega
  · conv => whnf
    refine fnext (α := Nat) (i + 1) (by omega) (by omega) (fstep_sub ⟨Sub.int (by rw [wi64_id]; omega; unfold I64; omega), Sub.refl _, Sub.refl _, trivial⟩)
  · exfalso; have := ue (by omega); omega
  · exfalso; have := ue (by omega); omega
  · conv => whnf
    refine fnext (α := Nat) (i + 1) (by omega) (by omega) (fstep_sub ⟨Sub.int (by rw [wi64_id]; omega; unfold I64; omega), Sub.refl _, Sub.refl _, trivial⟩)
end Go.KL.Ythaoejicodhgaaa
