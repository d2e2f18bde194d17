/- dunning: runs again, plainly -/
import Derived.Test.YthaoejicodhgaaaDoorDun
set_option linter.unusedVariables false
set_option linter.unusedSimpArgs false
set_option linter.unusedSectionVars false
set_option maxRecDepth 4000
namespace Go.KL.YthaoejicodhgaaaDoor.U
open Go Go.KL Go.RowKit Go.Proofs

theorem inc_of : ∀ {a : Int} {l : List Int}, (∀ n ∈ l, a < n) → l.Pairwise (· < ·) → inc a l
  | a, [], _, _ => trivial
  | a, n :: r, h, hp => ⟨h n (List.mem_cons_self ..), inc_of (List.pairwise_cons.1 hp).1 (List.pairwise_cons.1 hp).2⟩
theorem newD_inv {p : Po} {day : Int} {d : Dn} {x : Iv} (hd : 0 < d.st → d.inv = x.id) : ∀ e ∈ newD p day d x, e.inv = x.id := by
  intro e he
  unfold newD at he
  split at he
  · simp at he
  split at he
  · simp at he
  split at he
  · rw [List.mem_singleton.1 he]
  split at he
  · rw [List.mem_singleton.1 he]; exact hd (by assumption)
  · simp at he
theorem ofL_inv {duns : List Dn} {id : Int} (h : 0 < (ofL duns id).st) : (ofL duns id).inv = id ∧ ofL duns id ∈ duns := by
  induction duns with
  | nil => simp [ofL] at h
  | cons d r ih =>
    unfold ofL at h ⊢
    split
    · exact ⟨by assumption, List.mem_cons_self ..⟩
    · rename_i hne
      rw [if_neg hne] at h
      exact ⟨(ih h).1, List.mem_cons_of_mem _ (ih h).2⟩
/-- what is found of an invoice in what was made invoice by invoice -/
theorem ofL_fm {g : Iv → List Dn} (hl : ∀ x, (g x).length ≤ 1) : ∀ {l : List Iv} {a : Int}, inc a (l.map Iv.id) → (∀ x ∈ l, ∀ e ∈ g x, e.inv = x.id) → ∀ x ∈ l, ofL (l.flatMap g) x.id = (g x).headD z3
  | y :: r, a, h, hi, x, hx => by
    rw [List.flatMap_cons]
    rcases List.mem_cons.1 hx with rfl | hx
    · cases hg : g x with
      | nil =>
        rw [List.nil_append]
        refine ofL_none fun d hd => ?_
        obtain ⟨z, hz, hd⟩ := List.mem_flatMap.1 hd
        rw [hi z (List.mem_cons_of_mem _ hz) d hd]
        have := inc_lt h.2 z hz
        omega
      | cons e t =>
        have := hi x (List.mem_cons_self ..) e (by rw [hg]; exact List.mem_cons_self ..)
        rw [List.cons_append, ofL, if_pos this]; rfl
    · have hne : ∀ d ∈ g y, d.inv ≠ x.id := fun d hd => by
        rw [hi y (List.mem_cons_self ..) d hd]
        have := inc_lt h.2 x hx
        omega
      rw [ofL_app hne]
      exact ofL_fm hl h.2 (fun z hz => hi z (List.mem_cons_of_mem _ hz)) x hx

section
variable {p : Po} {day : Int} {l : List Iv} {duns : List Dn}
theorem runD_inv : ∀ x ∈ l, ∀ e ∈ newD p day (ofL duns x.id) x, e.inv = x.id := fun x _ => newD_inv fun h => (ofL_inv h).1
theorem ofL_run (hL : mayL l) {x : Iv} (hx : x ∈ l) : ofL (runD p duns day l) x.id = (newD p day (ofL duns x.id) x).headD z3 :=
  ofL_fm (g := fun x => newD p day (ofL duns x.id) x) (fun x => newD_len ..) hL.2 runD_inv x hx
theorem ofL_ok (hD : mayD l duns) (x : Iv) : 0 ≤ (ofL duns x.id).st ∧ (¬ 0 < (ofL duns x.id).st → (ofL duns x.id).st = 0) := by
  have := ofL_st (duns := duns) (fun d hd => by have := (hD.2 d hd).2.1; omega) x.id
  exact ⟨this, fun h => by omega⟩
theorem newD_good (hp : p.ok) (hd : 1 ≤ day ∧ day ≤ 3652059) (hD : mayD l duns) {x : Iv} (hx : x ∈ l) : ∀ e ∈ newD p day (ofL duns x.id) x, goodD l e := by
  intro e he
  have h0 := (ofL_ok hD x).1
  have hc := cnt_bd (lateO day x) p.days
  have h8 := hp.2.1
  have hi := runD_inv (p := p) (day := day) (l := l) (duns := duns) x hx e he
  unfold newD at he
  split at he
  · simp at he
  split at he
  · simp at he
  split at he
  · rw [List.mem_singleton.1 he]
    exact ⟨List.mem_map_of_mem hx, by simp only; omega, by simp only; omega, hd.1, hd.2⟩
  split at he
  · rw [List.mem_singleton.1 he]; exact hD.2 _ (ofL_inv (by assumption)).2
  · simp at he
theorem map_fm : ∀ {l : List Iv} {g : Iv → List Dn}, (∀ x, (g x).length ≤ 1) → (∀ x ∈ l, ∀ e ∈ g x, e.inv = x.id) → ((l.flatMap g).map Dn.inv).Sublist (l.map Iv.id)
  | [], _, _, _ => List.Sublist.slnil
  | x :: r, g, hl, hi => by
    rw [List.flatMap_cons, List.map_append, List.map_cons]
    have ih := map_fm hl fun z hz => hi z (List.mem_cons_of_mem _ hz)
    have h1 := hl x
    have h2 := hi x (List.mem_cons_self ..)
    match hg : g x, h1, h2 with
    | [], _, _ => exact ih.cons _
    | [e], _, h2 => rw [List.map_cons, List.map_nil, h2 e (List.mem_singleton.2 rfl)]; exact ih.cons_cons _
/-- THE DUNS THAT A RUN MAKES MAY BE -/
theorem mayD_run (hp : p.ok) (hd : 1 ≤ day ∧ day ≤ 3652059) (hL : mayL l) (hD : mayD l duns) : mayD l (runD p duns day l) := by
  have hs := map_fm (g := fun x => newD p day (ofL duns x.id) x) (fun x => newD_len ..) (runD_inv (l := l))
  refine ⟨inc_of (fun n hn => inc_pos hL.2 n (hs.subset hn)) ((inc_rise hL.2).sublist hs), fun d hd' => ?_⟩
  obtain ⟨x, hx, he⟩ := List.mem_flatMap.1 hd'
  exact newD_good hp hd hD hx d he
/-- what a run says of an invoice on the same day again -/
theorem newD_again (hL : mayL l) (hD : mayD l duns) {x : Iv} (hx : x ∈ l) : newD p day (ofL (runD p duns day l) x.id) x = newD p day (ofL duns x.id) x ∧ newN p day (ofL (runD p duns day l) x.id) x = [] := by
  rw [ofL_run hL hx]
  have h0 := (ofL_ok hD x).1
  have hz := (ofL_ok hD x).2
  generalize ofL duns x.id = d at h0 hz
  unfold newD newN
  by_cases c1 : x.op = 0
  · simp [c1]
  by_cases c2 : p.lost (lateO day x)
  · simp [c1, c2]
  by_cases c3 : d.st < cnt' (lateO day x) p.days
  · have : 0 < cnt' (lateO day x) p.days := by omega
    simp [c1, c2, c3, this]
  by_cases c4 : 0 < d.st
  · simp [c1, c2, c3, c4]
  · have h5 := hz c4
    have : ¬ 0 < cnt' (lateO day x) p.days := by omega
    simp [c1, c2, c3, c4, this]
theorem fm_congr {α β : Type} {f g : α → List β} {l : List α} (h : ∀ x ∈ l, f x = g x) : l.flatMap f = l.flatMap g := by
  rw [List.flatMap_def, List.flatMap_def, List.map_congr_left h]
theorem run_again (hL : mayL l) (hD : mayD l duns) : runD p (runD p duns day l) day l = runD p duns day l ∧ runN p (runD p duns day l) day l = [] := by
  constructor
  · exact fm_congr fun x hx => (newD_again hL hD hx).1
  · rw [runN, fm_congr (g := fun _ => []) fun x hx => (newD_again hL hD hx).2]; simp
/-- a dun that a run made, on a later day -/
theorem run_later (hL : mayL l) (hD : mayD l duns) {day2 : Int} {e : Dn} (he : e ∈ runD p duns day l) :
    (e.inv ∈ runL p day2 l → (ofL (runD p (runD p duns day l) day2 l) e.inv).st = 0) ∧ (e.inv ∉ runL p day2 l → e.st ≤ (ofL (runD p (runD p duns day l) day2 l) e.inv).st) := by
  obtain ⟨x, hx, hxe⟩ := List.mem_flatMap.1 he
  have hi := runD_inv (p := p) (day := day) (l := l) (duns := duns) x hx e hxe
  have hof : ofL (runD p duns day l) x.id = e := by
    rw [ofL_run hL hx]
    have h1 := newD_len p day (ofL duns x.id) x
    match hg : newD p day (ofL duns x.id) x, h1, hxe with
    | [d], _, hxe => exact (List.mem_singleton.1 hxe).symm
  have hst : 0 < e.st := by
    have h0 := (ofL_ok hD x).1
    unfold newD at hxe
    split at hxe
    · simp at hxe
    split at hxe
    · simp at hxe
    split at hxe
    · rw [List.mem_singleton.1 hxe]; simp only; omega
    split at hxe
    · rw [List.mem_singleton.1 hxe]; assumption
    · simp at hxe
  have hop : x.op ≠ 0 := fun h => by rw [newD, if_pos h] at hxe; simp at hxe
  have hgone : x.id ∈ runL p day2 l ↔ p.lost (lateO day2 x) := by
    constructor
    · intro h
      obtain ⟨y, hy, hxy⟩ := List.mem_flatMap.1 h
      unfold newL at hxy
      split at hxy
      · simp at hxy
      split at hxy
      · have hid := List.mem_singleton.1 hxy
        have : x = y := by
          have hr := inc_rise hL.2
          rw [List.pairwise_map] at hr
          obtain ⟨i, hi', rfl⟩ := List.mem_iff_getElem.1 hx
          obtain ⟨j, hj', rfl⟩ := List.mem_iff_getElem.1 hy
          rw [List.pairwise_iff_getElem] at hr
          rcases Nat.lt_trichotomy i j with h | h | h
          · have := hr i j hi' hj' h; omega
          · subst h; rfl
          · have := hr j i hj' hi' h; omega
        rw [this]; assumption
      · simp at hxy
    · intro h
      exact List.mem_flatMap.2 ⟨x, hx, by rw [newL, if_neg hop, if_pos h]; exact List.mem_singleton.2 rfl⟩
  rw [hi, ofL_run hL hx, hof, hgone]
  constructor
  · intro h
    rw [newD, if_neg hop, if_pos h]; rfl
  · intro h
    rw [newD, if_neg hop, if_neg h]
    split
    · simp only [List.headD]; omega
    · exact Int.le_refl _
/-- a notice that a run made -/
theorem run_notice (hL : mayL l) {n : Nt} (hn : n ∈ runN p duns day l) {x : Iv} (hx : x ∈ l) (hi : n.inv = x.id) : n.op = x.op ∧ n.cu = x.cu ∧ n.st = (ofL (runD p duns day l) x.id).st ∧ n.op ≠ 0 := by
  obtain ⟨y, hy, hny⟩ := List.mem_flatMap.1 hn
  unfold newN at hny
  split at hny
  · simp at hny
  rename_i c1
  split at hny
  · simp at hny
  rename_i c2
  split at hny
  · rename_i c3
    have e := List.mem_singleton.1 hny
    subst e
    simp only at hi
    have : x = y := by
      have hr := inc_rise hL.2
      rw [List.pairwise_map] at hr
      obtain ⟨i, hi', rfl⟩ := List.mem_iff_getElem.1 hx
      obtain ⟨j, hj', rfl⟩ := List.mem_iff_getElem.1 hy
      rw [List.pairwise_iff_getElem] at hr
      rcases Nat.lt_trichotomy i j with h | h | h
      · have := hr i j hi' hj' h; omega
      · subst h; rfl
      · have := hr j i hj' hi' h; omega
    subst this
    refine ⟨rfl, rfl, ?_, c1⟩
    rw [ofL_run hL hx, newD, if_neg c1, if_neg c2, if_pos c3]; rfl
  · simp at hny
/-- each is told once at most -/
theorem told_le (id : Int) : ∀ (l : List Iv), ((runN p duns day l).map Nt.inv).count id + (runL p day l).count id ≤ (l.map Iv.id).count id
  | [] => by simp [runN, runL]
  | x :: r => by
    have ih := told_le id r
    simp only [runN, runL, List.flatMap_cons, List.map_append, List.count_append, List.map_cons, List.count_cons] at ih ⊢
    have : ((newN p day (ofL duns x.id) x).map Nt.inv).count id + (newL p day x).count id ≤ if (x.id == id) = true then 1 else 0 := by
      unfold newN newL
      by_cases c1 : x.op = 0
      · simp [c1]
      by_cases c2 : p.lost (lateO day x)
      · simp [c1, c2, List.count_cons]
      by_cases c3 : (ofL duns x.id).st < cnt' (lateO day x) p.days
      · simp [c1, c2, c3, List.count_cons]
      · simp [c1, c2, c3]
    omega
theorem told_one (hL : mayL l) (id : Int) : ((runN p duns day l).map Nt.inv).count id + (runL p day l).count id ≤ 1 := by
  have h1 := told_le (p := p) (duns := duns) (day := day) id l
  have h2 : (l.map Iv.id).Nodup := (inc_rise hL.2).imp fun h => by omega
  have := List.nodup_iff_count.1 h2 id
  omega
end
end Go.KL.YthaoejicodhgaaaDoor.U

/- the laws of layer 27: a run again -/
set_option linter.unusedVariables false
set_option linter.unusedSimpArgs false
set_option linter.unusedSectionVars false
set_option maxRecDepth 4000
namespace Go.KL.YthaoejicodhgaaaDoor.U
open Go Go.KL Go.RowKit Go.Proofs

theorem c4 : cFun E0.P 4 = some ⟨243, [(4, none)], .seq (.rg [⟨some 2, none, .box (.t 0) 28⟩, ⟨some 4, none, .mv (.k (.bool false))⟩]) (.seq (.seq (.rg [⟨some 20, none, .ld 5 true (.t 2)⟩, ⟨some 21, none, .call 7 [.t 20]⟩]) (.cond (.t 21) (.seq (.rg [⟨some 22, none, .call 8 []⟩, ⟨some 4, none, .mv (.t 22)⟩]) .ret) .skip)) (.seq (.rg [⟨some 24, none, .fa 0 (.t 2)⟩, ⟨some 25, none, .ld 2 true (.t 24)⟩, ⟨some 26, none, .fa 2 (.t 2)⟩, ⟨some 27, none, .ld 1 false (.t 26)⟩, ⟨some 28, none, .fa 3 (.t 2)⟩, ⟨some 29, none, .ld 1 false (.t 28)⟩, ⟨some 30, none, .fa 4 (.t 2)⟩, ⟨some 31, none, .ld 1 false (.t 30)⟩, ⟨some 32, none, .call 9 [.t 25, .t 27, .t 29, .t 31]⟩, ⟨some 23, none, .mv (.t 32)⟩, ⟨some 33, none, .ext 0 (.t 23)⟩, ⟨some 34, none, .ext 1 (.t 23)⟩, ⟨some 5, none, .alloc [.nilsl, .nilsl, .nilsl] 34⟩, ⟨none, none, .st 3 (.t 5) (.t 33)⟩, ⟨some 6, none, .mv (.t 34)⟩]) (.seq (.seq (.rg [⟨some 35, none, .mv (.t 6)⟩, ⟨some 36, none, .bin .neq .leaf (.t 35) (.k (.int .i64 0))⟩]) (.cond (.t 36) (.seq (.rg [⟨some 37, none, .ld 3 true (.t 5)⟩, ⟨some 38, none, .build [.nilsl, .nilsl, .nilsl] []⟩, ⟨some 39, none, .call 11 [.t 37, .t 38]⟩, ⟨some 40, none, .mv (.t 39)⟩, ⟨some 41, some (40, true), .call 8 []⟩, ⟨some 42, none, .pick (.t 40) (.t 41) (.k (.bool false))⟩, ⟨some 4, none, .mv (.t 42)⟩]) .ret) .skip)) (.seq (.rg [⟨some 44, none, .fa 0 (.t 2)⟩, ⟨some 45, none, .ld 2 true (.t 44)⟩, ⟨some 46, none, .fa 0 (.t 5)⟩, ⟨some 47, none, .ld 1 false (.t 46)⟩, ⟨some 48, none, .fa 3 (.t 2)⟩, ⟨some 49, none, .ld 1 false (.t 48)⟩, ⟨some 50, none, .fa 4 (.t 2)⟩, ⟨some 51, none, .ld 1 false (.t 50)⟩, ⟨some 52, none, .call 9 [.t 45, .t 47, .t 49, .t 51]⟩, ⟨some 43, none, .mv (.t 52)⟩, ⟨some 53, none, .ext 0 (.t 43)⟩, ⟨some 54, none, .ext 1 (.t 43)⟩, ⟨some 7, none, .alloc [.nilsl, .nilsl, .nilsl] 34⟩, ⟨none, none, .st 3 (.t 7) (.t 53)⟩, ⟨some 8, none, .mv (.t 54)⟩]) (.seq (.seq (.rg [⟨some 55, none, .mv (.t 8)⟩, ⟨some 56, none, .bin .neq .leaf (.t 55) (.k (.int .i64 0))⟩, ⟨some 57, none, .mv (.t 56)⟩, ⟨some 58, some (57, false), .fa 1 (.t 7)⟩, ⟨some 59, some (57, false), .ld 1 false (.t 58)⟩, ⟨some 60, some (57, false), .len 1 (.t 59)⟩, ⟨some 61, some (57, false), .bin .neq .leaf (.t 60) (.k (.int .i64 0))⟩, ⟨some 62, none, .pick (.t 57) (.k (.bool true)) (.t 61)⟩, ⟨some 63, none, .mv (.t 62)⟩, ⟨some 64, some (63, false), .ld 3 true (.t 7)⟩, ⟨some 65, some (63, false), .fa 0 (.t 5)⟩, ⟨some 66, some (63, false), .ld 1 false (.t 65)⟩, ⟨some 67, some (63, false), .fa 2 (.t 5)⟩, ⟨some 68, some (63, false), .ld 1 false (.t 67)⟩, ⟨some 69, some (63, false), .build [.nilsl, .nilsl, .nilsl] [(0, 1, .t 66), (2, 1, .t 68)]⟩, ⟨some 70, some (63, false), .call 11 [.t 64, .t 69]⟩, ⟨some 71, some (63, false), .un .not (.t 70)⟩, ⟨some 72, none, .pick (.t 63) (.k (.bool true)) (.t 71)⟩]) (.cond (.t 72) (.seq (.rg [⟨some 4, none, .mv (.k (.bool false))⟩]) .ret) .skip)) (.seq (.rg [⟨some 74, none, .fa 0 (.t 2)⟩, ⟨some 75, none, .ld 2 true (.t 74)⟩, ⟨some 76, none, .fa 0 (.t 5)⟩, ⟨some 77, none, .ld 1 false (.t 76)⟩, ⟨some 78, none, .fa 3 (.t 2)⟩, ⟨some 79, none, .ld 1 false (.t 78)⟩, ⟨some 80, none, .fa 4 (.t 2)⟩, ⟨some 81, none, .ld 1 false (.t 80)⟩, ⟨some 82, none, .mv (.t 1)⟩, ⟨some 83, none, .mm true [.t 81, .t 82]⟩, ⟨some 84, none, .call 9 [.t 75, .t 77, .t 79, .t 83]⟩, ⟨some 73, none, .mv (.t 84)⟩, ⟨some 85, none, .ext 0 (.t 73)⟩, ⟨some 86, none, .ext 1 (.t 73)⟩, ⟨some 9, none, .alloc [.nilsl, .nilsl, .nilsl] 34⟩, ⟨none, none, .st 3 (.t 9) (.t 85)⟩, ⟨some 10, none, .mv (.t 86)⟩]) (.seq (.seq (.rg [⟨some 87, none, .mv (.t 10)⟩, ⟨some 88, none, .bin .neq .leaf (.t 87) (.k (.int .i64 0))⟩]) (.cond (.t 88) (.seq (.rg [⟨some 89, none, .mv (.t 1)⟩, ⟨some 90, none, .bin .gtr .leaf (.t 89) (.k (.int .i64 3652059))⟩, ⟨some 91, none, .mv (.t 90)⟩, ⟨some 92, some (91, true), .call 8 []⟩, ⟨some 93, none, .pick (.t 91) (.t 92) (.k (.bool false))⟩, ⟨some 4, none, .mv (.t 93)⟩]) .ret) .skip)) (.seq (.seq (.rg [⟨some 11, none, .mv (.k (.int .i64 0))⟩]) (.block 0 (.loop (.seq (.seq (.rg [⟨some 94, none, .mv (.t 11)⟩, ⟨some 95, none, .fa 0 (.t 5)⟩, ⟨some 96, none, .ld 1 false (.t 95)⟩, ⟨some 97, none, .len 1 (.t 96)⟩, ⟨some 98, none, .bin .lss .leaf (.t 94) (.t 97)⟩]) (.cond (.t 98) .skip (.exit 0))) (.seq (.block 1 (.seq (.rd [(⟨some 101, none, .fa 0 (.t 9)⟩, none), (⟨some 102, none, .ld 1 false (.t 101)⟩, none), (⟨some 103, none, .fa 0 (.t 5)⟩, none), (⟨some 104, none, .ld 1 false (.t 103)⟩, none), (⟨some 105, none, .mv (.t 11)⟩, none), (⟨some 106, none, .ia 3 (.t 104) (.t 105)⟩, none), (⟨some 107, none, .fa 0 (.t 106)⟩, none), (⟨some 108, none, .ld 1 false (.t 107)⟩, none), (⟨some 109, none, .call 14 [.t 102, .t 108]⟩, none), (⟨some 12, none, .alloc [.int .u64 0, .int .i64 0, .int .i64 0] 45⟩, some [⟨some 102, none, .ld 1 false (.t 101)⟩, ⟨some 104, none, .ld 1 false (.t 103)⟩, ⟨some 108, none, .ld 1 false (.t 107)⟩, ⟨some 109, none, .call 14 [.t 102, .t 108]⟩]), (⟨none, none, .st 3 (.t 12) (.t 109)⟩, some [])]) (.seq (.rg [⟨some 13, none, .mv (.k (.bool false))⟩]) (.seq (.seq (.rg [⟨some 14, none, .mv (.k (.int .i64 0))⟩]) (.block 2 (.loop (.seq (.seq (.rg [⟨some 110, none, .mv (.t 14)⟩, ⟨some 111, none, .fa 2 (.t 9)⟩, ⟨some 112, none, .ld 1 false (.t 111)⟩, ⟨some 113, none, .len 1 (.t 112)⟩, ⟨some 114, none, .bin .lss .leaf (.t 110) (.t 113)⟩]) (.cond (.t 114) .skip (.exit 2))) (.seq (.block 3 (.rd [(⟨some 117, none, .mv (.t 13)⟩, none), (⟨some 118, none, .mv (.t 117)⟩, none), (⟨some 119, some (118, false), .fa 2 (.t 9)⟩, none), (⟨some 120, some (118, false), .ld 1 false (.t 119)⟩, none), (⟨some 121, some (118, false), .mv (.t 14)⟩, none), (⟨some 122, some (118, false), .ia 1 (.t 120) (.t 121)⟩, none), (⟨some 123, some (118, false), .ld 1 false (.t 122)⟩, none), (⟨some 124, some (118, false), .fa 0 (.t 5)⟩, none), (⟨some 125, some (118, false), .ld 1 false (.t 124)⟩, none), (⟨some 126, some (118, false), .mv (.t 11)⟩, none), (⟨some 127, some (118, false), .ia 3 (.t 125) (.t 126)⟩, none), (⟨some 128, some (118, false), .fa 0 (.t 127)⟩, none), (⟨some 129, some (118, false), .ld 1 false (.t 128)⟩, none), (⟨some 130, some (118, false), .bin .eql .leaf (.t 123) (.t 129)⟩, none), (⟨some 131, none, .pick (.t 118) (.k (.bool true)) (.t 130)⟩, none), (⟨some 13, none, .mv (.t 131)⟩, none)])) (.rg [⟨some 115, none, .mv (.t 14)⟩, ⟨some 116, none, .bin .add .leaf (.t 115) (.k (.int .i64 1))⟩, ⟨some 14, none, .mv (.t 116)⟩])))))) (.seq (.rd [(⟨some 132, none, .mv (.t 13)⟩, none), (⟨some 133, none, .un .not (.t 132)⟩, none), (⟨some 134, none, .mv (.t 133)⟩, none), (⟨some 135, some (134, true), .fa 1 (.t 12)⟩, none), (⟨some 136, some (134, true), .ld 1 false (.t 135)⟩, none), (⟨some 137, some (134, true), .fa 0 (.t 5)⟩, none), (⟨some 138, some (134, true), .ld 1 false (.t 137)⟩, none), (⟨some 139, some (134, true), .mv (.t 11)⟩, none), (⟨some 140, some (134, true), .ia 3 (.t 138) (.t 139)⟩, none), (⟨some 141, some (134, true), .fa 1 (.t 140)⟩, none), (⟨some 142, some (134, true), .ld 1 false (.t 141)⟩, none), (⟨some 143, some (134, true), .bin .lss .leaf (.t 136) (.t 142)⟩, none), (⟨some 144, none, .pick (.t 134) (.t 143) (.k (.bool false))⟩, none), (⟨some 145, none, .mv (.t 144)⟩, none), (⟨some 146, some (145, false), .mv (.t 13)⟩, none), (⟨some 147, some (145, false), .mv (.t 146)⟩, none), (⟨some 148, some (147, true), .fa 1 (.t 12)⟩, none), (⟨some 149, some (147, true), .ld 1 false (.t 148)⟩, none), (⟨some 150, some (147, true), .bin .neq .leaf (.t 149) (.k (.int .i64 0))⟩, none), (⟨some 151, some (145, false), .pick (.t 147) (.t 150) (.k (.bool false))⟩, none), (⟨some 152, none, .pick (.t 145) (.k (.bool true)) (.t 151)⟩, none)]) (.cond (.t 152) (.seq (.rg [⟨some 4, none, .mv (.k (.bool false))⟩]) .ret) .skip)))))) (.rg [⟨some 99, none, .mv (.t 11)⟩, ⟨some 100, none, .bin .add .leaf (.t 99) (.k (.int .i64 1))⟩, ⟨some 11, none, .mv (.t 100)⟩])))))) (.seq (.seq (.rg [⟨some 15, none, .mv (.k (.int .i64 0))⟩]) (.block 4 (.loop (.seq (.seq (.rg [⟨some 153, none, .mv (.t 15)⟩, ⟨some 154, none, .fa 3 (.t 2)⟩, ⟨some 155, none, .ld 1 false (.t 154)⟩, ⟨some 156, none, .len 1 (.t 155)⟩, ⟨some 157, none, .bin .lss .leaf (.t 153) (.t 156)⟩]) (.cond (.t 157) .skip (.exit 4))) (.seq (.block 5 (.seq (.rg [⟨some 16, none, .mv (.k (.int .i64 0))⟩]) (.seq (.seq (.rg [⟨some 17, none, .mv (.k (.int .i64 0))⟩]) (.block 6 (.loop (.seq (.seq (.rg [⟨some 160, none, .mv (.t 17)⟩, ⟨some 161, none, .fa 1 (.t 5)⟩, ⟨some 162, none, .ld 1 false (.t 161)⟩, ⟨some 163, none, .len 1 (.t 162)⟩, ⟨some 164, none, .bin .lss .leaf (.t 160) (.t 163)⟩]) (.cond (.t 164) .skip (.exit 6))) (.seq (.block 7 (.seq (.rg [⟨some 167, none, .fa 1 (.t 5)⟩, ⟨some 168, none, .ld 1 false (.t 167)⟩, ⟨some 169, none, .mv (.t 17)⟩, ⟨some 170, none, .ia 5 (.t 168) (.t 169)⟩, ⟨some 171, none, .ld 5 true (.t 170)⟩, ⟨some 18, none, .alloc [.int .u64 0, .int .u64 0, .int .i64 0, .int .i64 0, .int .i64 0] 48⟩, ⟨none, none, .st 5 (.t 18) (.t 171)⟩]) (.seq (.rd [(⟨some 172, none, .fa 0 (.t 18)⟩, none), (⟨some 173, none, .ld 1 false (.t 172)⟩, none), (⟨some 174, none, .fa 3 (.t 2)⟩, none), (⟨some 175, none, .ld 1 false (.t 174)⟩, none), (⟨some 176, none, .mv (.t 15)⟩, none), (⟨some 177, none, .ia 11 (.t 175) (.t 176)⟩, none), (⟨some 178, none, .fa 0 (.t 177)⟩, none), (⟨some 179, none, .ld 1 false (.t 178)⟩, none), (⟨some 180, none, .bin .eql .leaf (.t 173) (.t 179)⟩, none)]) (.cond (.t 180) (.seq (.rg [⟨some 181, none, .mv (.t 16)⟩, ⟨some 182, none, .bin .add .leaf (.t 181) (.k (.int .i64 1))⟩, ⟨some 16, none, .mv (.t 182)⟩]) (.seq (.rd [(⟨some 183, none, .fa 4 (.t 18)⟩, none), (⟨some 184, none, .ld 1 false (.t 183)⟩, none), (⟨some 185, none, .fa 3 (.t 2)⟩, none), (⟨some 186, none, .ld 1 false (.t 185)⟩, none), (⟨some 187, none, .mv (.t 15)⟩, none), (⟨some 188, none, .ia 11 (.t 186) (.t 187)⟩, none), (⟨some 189, none, .ld 11 true (.t 188)⟩, none), (⟨some 190, none, .call 15 [.t 189]⟩, none), (⟨some 191, none, .bin .neq .leaf (.t 184) (.t 190)⟩, none), (⟨some 192, none, .mv (.t 191)⟩, none), (⟨some 193, some (192, false), .fa 1 (.t 18)⟩, none), (⟨some 194, some (192, false), .ld 1 false (.t 193)⟩, none), (⟨some 195, some (192, false), .fa 3 (.t 2)⟩, none), (⟨some 196, some (192, false), .ld 1 false (.t 195)⟩, none), (⟨some 197, some (192, false), .mv (.t 15)⟩, none), (⟨some 198, some (192, false), .ia 11 (.t 196) (.t 197)⟩, none), (⟨some 199, some (192, false), .fa 1 (.t 198)⟩, none), (⟨some 200, some (192, false), .ld 1 false (.t 199)⟩, none), (⟨some 201, some (192, false), .bin .neq .leaf (.t 194) (.t 200)⟩, none), (⟨some 202, none, .pick (.t 192) (.k (.bool true)) (.t 201)⟩, none), (⟨some 203, none, .mv (.t 202)⟩, none), (⟨some 204, some (203, false), .fa 2 (.t 18)⟩, none), (⟨some 205, some (203, false), .ld 1 false (.t 204)⟩, none), (⟨some 206, some (203, false), .fa 0 (.t 5)⟩, none), (⟨some 207, some (203, false), .ld 1 false (.t 206)⟩, none), (⟨some 208, some (203, false), .fa 0 (.t 18)⟩, none), (⟨some 209, some (203, false), .ld 1 false (.t 208)⟩, none), (⟨some 210, some (203, false), .call 14 [.t 207, .t 209]⟩, none), (⟨some 211, some (203, false), .fd 1 1 false (.t 210)⟩, none), (⟨some 212, some (203, false), .bin .neq .leaf (.t 205) (.t 211)⟩, none), (⟨some 213, none, .pick (.t 203) (.k (.bool true)) (.t 212)⟩, none), (⟨some 214, none, .mv (.t 213)⟩, none), (⟨some 215, some (214, false), .fa 4 (.t 18)⟩, none), (⟨some 216, some (214, false), .ld 1 false (.t 215)⟩, none), (⟨some 217, some (214, false), .bin .eql .leaf (.t 216) (.k (.int .i64 0))⟩, none), (⟨some 218, none, .pick (.t 214) (.k (.bool true)) (.t 217)⟩, none)]) (.cond (.t 218) (.seq (.rg [⟨some 4, none, .mv (.k (.bool false))⟩]) .ret) .skip))) .skip)))) (.rg [⟨some 165, none, .mv (.t 17)⟩, ⟨some 166, none, .bin .add .leaf (.t 165) (.k (.int .i64 1))⟩, ⟨some 17, none, .mv (.t 166)⟩])))))) (.seq (.seq (.rg [⟨some 19, none, .mv (.k (.int .i64 0))⟩]) (.block 8 (.loop (.seq (.seq (.rg [⟨some 219, none, .mv (.t 19)⟩, ⟨some 220, none, .fa 2 (.t 5)⟩, ⟨some 221, none, .ld 1 false (.t 220)⟩, ⟨some 222, none, .len 1 (.t 221)⟩, ⟨some 223, none, .bin .lss .leaf (.t 219) (.t 222)⟩]) (.cond (.t 223) .skip (.exit 8))) (.seq (.block 9 (.seq (.rd [(⟨some 226, none, .fa 2 (.t 5)⟩, none), (⟨some 227, none, .ld 1 false (.t 226)⟩, none), (⟨some 228, none, .mv (.t 19)⟩, none), (⟨some 229, none, .ia 1 (.t 227) (.t 228)⟩, none), (⟨some 230, none, .ld 1 false (.t 229)⟩, none), (⟨some 231, none, .fa 3 (.t 2)⟩, none), (⟨some 232, none, .ld 1 false (.t 231)⟩, none), (⟨some 233, none, .mv (.t 15)⟩, none), (⟨some 234, none, .ia 11 (.t 232) (.t 233)⟩, none), (⟨some 235, none, .fa 0 (.t 234)⟩, none), (⟨some 236, none, .ld 1 false (.t 235)⟩, none), (⟨some 237, none, .bin .eql .leaf (.t 230) (.t 236)⟩, none)]) (.cond (.t 237) (.rg [⟨some 238, none, .mv (.t 16)⟩, ⟨some 239, none, .bin .add .leaf (.t 238) (.k (.int .i64 1))⟩, ⟨some 16, none, .mv (.t 239)⟩]) .skip))) (.rg [⟨some 224, none, .mv (.t 19)⟩, ⟨some 225, none, .bin .add .leaf (.t 224) (.k (.int .i64 1))⟩, ⟨some 19, none, .mv (.t 225)⟩])))))) (.seq (.rg [⟨some 240, none, .mv (.t 16)⟩, ⟨some 241, none, .bin .gtr .leaf (.t 240) (.k (.int .i64 1))⟩]) (.cond (.t 241) (.seq (.rg [⟨some 4, none, .mv (.k (.bool false))⟩]) .ret) .skip)))))) (.rg [⟨some 158, none, .mv (.t 15)⟩, ⟨some 159, none, .bin .add .leaf (.t 158) (.k (.int .i64 1))⟩, ⟨some 15, none, .mv (.t 159)⟩])))))) (.seq (.rg [⟨some 242, none, .call 8 []⟩, ⟨some 4, none, .mv (.t 242)⟩]) .ret))))))))))⟩ := by kernel_rfl

def agJ (p : Po) (duns : List Dn) (l : List Iv) (day : Int) (Ds : List Dn) (N : List Nt) (L : List Int) (C : List Dn) (N2 : List Nt) (L2 : List Int) : List O :=
  [.arr [.sl (i64s p.days), .int .i64 p.lose, .sl (dns duns), .sl (ivs l), .int .i64 day], .arr [.sl (dns Ds), .sl (nts N), .sl (u64s L)], .arr [.sl (dns Ds), .sl (nts []), .sl (u64s L)], .arr [.sl (dns C), .sl (nts N2), .sl (u64s L2)]]
theorem agJ_sc (p : Po) (duns : List Dn) (l : List Iv) (day : Int) (Ds : List Dn) (N : List Nt) (L : List Int) (C : List Dn) (N2 : List Nt) (L2 : List Int) (n m : Nat) : oScL n m (agJ p duns l day Ds N L C N2 L2) = true := by
  simp [agJ, oScL, oSc, scL, D.sc, sc_i64s, sc_dns, sc_ivs, sc_nts, sc_u64s]
structure GB where
  j : Nat
  g : Bool
structure TB where
  k : Nat
  t : Int
set_option maxHeartbeats 4000000 in
open Classical in
theorem Again (p : Po) (duns : List Dn) (l : List Iv) (day later : Int) (hpd : ∀ n ∈ p.days, I64 n) (hpl : I64 p.lose) (hl : ∀ x ∈ l, x.R) (hd : ∀ d ∈ duns, U64 d.inv ∧ I64 d.st ∧ I64 d.si) (hday : I64 day) (hlat : I64 later) : Pure 4 [askedD p duns l day, .int .i64 later] (.bool true) := by
  intro S tk
  have hg := great p duns l day
  by_cases h : 20 < p.days.length ∨ 40 < duns.length ∨ 40 < l.length
  · rw [decide_eq_true h] at hg
    refine ACalls.fgo c4 rfl fun hS => ?_
    repeat' first | with_reducible refine fzD_ite (fun q => ?_) (fun q => ?_) | ((try conv => whnf); first
      | refine bs_d (fun q => ?_) (fun q => ?_)
      | refine bs_n ?_
      | refine bs_i (fun q => ?_) (fun q => ?_)
      | refine ck (by first | rfl | simp) rfl (hg) ?_
      | refine cq (hg) ?_
      | refine ck (by first | rfl | simp) rfl (head) ?_
      | refine cq (head) ?_
      | refine eqk rfl ?_
      | refine ffin _ rfl rfl hS (Sub.refl _) rfl ⟨?_, rfl, rfl⟩)
    all_goals rfl
  rw [decide_eq_false h] at hg
  have hp : p.R := ⟨by omega, hpd, hpl⟩
  have hi : RunIn p duns l day := ⟨hp, hl, by omega, by omega, hd, hday⟩
  have h1 := dunRun p duns l day hi
  by_cases hok : runOK p duns l day
  case neg =>
    rw [if_neg hok] at h1
    have h3 := refSame [] [] [] (by simp) (by simp) (by simp)
    refine ACalls.fgo c4 rfl fun hS => ?_
    repeat' first | with_reducible refine fzD_ite (fun q => ?_) (fun q => ?_) | ((try conv => whnf); first
      | refine bs_d (fun q => ?_) (fun q => ?_)
      | refine bs_n ?_
      | refine bs_i (fun q => ?_) (fun q => ?_)
      | refine ck (by first | rfl | simp) rfl (hg) ?_
      | refine cq (hg) ?_
      | refine ck (by first | rfl | simp) rfl (head) ?_
      | refine cq (head) ?_
      | refine ck (by first | rfl | simp) rfl (h1) ?_
      | refine cq (h1) ?_
      | refine ckS (by first | rfl | simp) rfl h3 (.cons (Sub.refl _) (.cons (Sub.agg (.cons Sub.nil (.cons Sub.nil (.cons Sub.nil .nil)))) .nil)) ?_
      | refine eqk rfl ?_
      | refine ffin _ rfl rfl hS (Sub.refl _) rfl ⟨?_, rfl, rfl⟩)
    all_goals rfl
  rw [if_pos hok] at h1
  obtain ⟨hpo, hdo, hL, hD⟩ := hok
  have hD2 := mayD_run (p := p) (day := day) hpo hdo hL hD
  have hDl : (runD p duns day l).length ≤ 40 := Nat.le_trans (fm_len (fun x => newD_len ..) l) (by omega)
  have hNl : (runN p duns day l).length ≤ 40 := Nat.le_trans (fm_len (fun x => newN_len ..) l) (by omega)
  have hLl : (runL p day l).length ≤ 40 := Nat.le_trans (fm_len (fun x => newL_len ..) l) (by omega)
  have hDr : ∀ d ∈ runD p duns day l, U64 d.inv ∧ I64 d.st ∧ I64 d.si := fun d hd => by
    obtain ⟨ga, gb, gc, gd, ge⟩ := hD2.2 d hd
    obtain ⟨x, hx, hxe⟩ := List.mem_map.1 ga
    exact ⟨hxe ▸ (hl x hx).id, by unfold I64; omega, by unfold I64; omega⟩
  have h2 := dunRun p (runD p duns day l) l day ⟨hp, hl, by omega, hDl, hDr, hday⟩
  obtain ⟨ra1, ra2⟩ := run_again (p := p) (day := day) hL hD
  rw [if_pos ⟨hpo, hdo, hL, hD2⟩, runR, ra1, ra2] at h2
  rw [runR] at h1
  have hmax : I64 (max day later) := by unfold I64 at *; omega
  have h4 := dunRun p (runD p duns day l) l (max day later) ⟨hp, hl, by omega, hDl, hDr, hmax⟩
  have hsame := refSame (runD p duns day l) [] (runL p day l) (by omega) (by simp) (by omega)
  have hlater := fun e he => run_later (p := p) (day := day) (day2 := max day later) hL hD (e := e) he
  have hnote := fun n hn x hx hi => run_notice (p := p) (day := day) (duns := duns) hL (n := n) hn (x := x) hx hi
  have htold := told_one (p := p) (day := day) (duns := duns) hL
  generalize runD p duns day l = Ds at *
  generalize runN p duns day l = N at *
  generalize hLe : runL p day l = Ls at *
  by_cases hm : max day later ≤ 3652059
  case neg =>
    rw [if_neg (fun hr => hm hr.2.1.2)] at h4
    refine ACalls.fgo c4 rfl fun hS => ?_
    repeat' first | with_reducible refine fzD_ite (fun q => ?_) (fun q => ?_) | ((try conv => whnf); first
      | refine bs_t (decide_eq_true rfl) ?_
      | refine bs_d (fun q => ?_) (fun q => ?_)
      | refine bs_n ?_
      | refine bs_i (fun q => ?_) (fun q => ?_)
      | refine ck (by first | rfl | simp) rfl (hg) ?_
      | refine cq (hg) ?_
      | refine ck (by first | rfl | simp) rfl (head) ?_
      | refine cq (head) ?_
      | refine ck (by first | rfl | simp) rfl (h1) ?_
      | refine cq (h1) ?_
      | refine ck (by first | rfl | simp) rfl (h2) ?_
      | refine cq (h2) ?_
      | refine ck (by first | rfl | simp) rfl (h4) ?_
      | refine cq (h4) ?_
      | refine ckS (by first | rfl | simp) rfl hsame (.cons (Sub.refl _) (.cons (Sub.agg (.cons (Sub.refl _) (.cons Sub.nil (.cons (Sub.refl _) .nil)))) .nil)) ?_
      | refine eqk rfl ?_
      | refine ffin _ rfl rfl hS (Sub.refl _) rfl ⟨?_, rfl, rfl⟩)
    · rfl
    · exfalso; omega
  rw [if_pos ⟨hpo, ⟨by omega, hm⟩, hL, hD2⟩, runR] at h4
  have hCl : (runD p Ds (max day later) l).length ≤ 40 := Nat.le_trans (fm_len (fun x => newD_len ..) l) (by omega)
  have hCL : (runL p (max day later) l).length ≤ 40 := Nat.le_trans (fm_len (fun x => newL_len ..) l) (by omega)
  generalize runD p Ds (max day later) l = C at *
  generalize runN p Ds (max day later) l = N2 at *
  generalize runL p (max day later) l = L2 at *
  have eD := dns_len Ds
  have eN := nts_len N
  have eL := u64s_len Ls
  have eL2 := u64s_len L2
  have eI := ivs_len l
  refine ACalls.fgo c4 rfl fun hS => ?_
  repeat' first | with_reducible refine fzD_ite (fun q => ?_) (fun q => ?_) | ((try conv => whnf); first
    | refine bs_t (decide_eq_true rfl) ?_
    | refine bs_d (fun q => ?_) (fun q => ?_)
    | refine bs_n ?_
    | refine bs_i (fun q => ?_) (fun q => ?_)
    | refine ck (by first | rfl | simp) rfl (hg) ?_
    | refine cq (hg) ?_
    | refine ck (by first | rfl | simp) rfl (head) ?_
    | refine cq (head) ?_
    | refine ck (by first | rfl | simp) rfl (h1) ?_
    | refine cq (h1) ?_
    | refine ck (by first | rfl | simp) rfl (h2) ?_
    | refine cq (h2) ?_
    | refine ck (by first | rfl | simp) rfl (h4) ?_
    | refine cq (h4) ?_
    | refine ckS (by first | rfl | simp) rfl hsame (.cons (Sub.refl _) (.cons (Sub.agg (.cons (Sub.refl _) (.cons Sub.nil (.cons (Sub.refl _) .nil)))) .nil)) ?_
    | refine eqk rfl ?_
    | refine ffin _ rfl rfl hS (Sub.refl _) rfl ⟨?_, rfl, rfl⟩)
  refine floop (α := SN) rfl rfl hS (fun s => s.i ≤ Ds.length) (fun s => Ds.length - s.i) (fun s => [(11, .d (.int .i64 s.i)), (2, .lp 0 0), (5, .lp 1 0), (9, .lp 3 0)]) (fun _ => agJ p duns l day Ds N Ls C N2 L2) (fun _ => []) ⟨0⟩ (Nat.zero_le _) ?_ ?_
  · exact fstep_sub ⟨Sub.refl _, Sub.refl _, Sub.refl _, Sub.refl _, trivial⟩
  · intro s hs
    have hof := refOf C (by omega) (Ds[s.i]!).inv
    repeat' first | with_reducible refine fzD_ite (fun q => ?_) (fun q => ?_) | ((try conv => whnf); first
      | refine bs_d (fun q => ?_) (fun q => ?_) <;> (try simp (disch := ((try unfold I64); omega)) only [wi64_id, td] at q)
      | refine bs_n ?_
      | refine bs_i (fun q => ?_) (fun q => ?_)
      | refine ck (by first | rfl | simp) rfl (hof) ?_
      | refine cq (hof) ?_
      | refine pK_i (iaD_dn (i := s.i) (by first | rfl | omega | (refine Int.sub_eq_zero.mp ?_; simp (disch := ((try unfold I64); omega)) only [wi64_id, td]; omega)) (by omega)) ?_
      | refine eqk rfl ?_
      | refine ffin _ rfl rfl hS (Sub.refl _) rfl ⟨?_, rfl, rfl⟩)
    · have hi1 : s.i < Ds.length := by omega
      obtain ⟨hga, hgb⟩ := hlater _ (mem_at hi1)
      refine floop (α := GB) rfl rfl hS (fun t => t.j ≤ L2.length ∧ (t.g = true ↔ (Ds[s.i]!).inv ∈ L2.take t.j)) (fun t => L2.length - t.j) (fun t => [(14, .d (.int .i64 t.j)), (13, .d (.bool t.g)), (2, .lp 0 0), (5, .lp 1 0), (9, .lp 3 0), (12, .lp 4 0), (11, .d (.int .i64 s.i))]) (fun _ => agJ p duns l day Ds N Ls C N2 L2 ++ [.arr (ofL C (Ds[s.i]!).inv).cs]) (fun _ => []) ⟨0, false⟩ ⟨Nat.zero_le _, by simp⟩ ?_ ?_
      · exact fstep_sub ⟨Sub.refl _, Sub.refl _, Sub.refl _, Sub.refl _, Sub.refl _, Sub.refl _, Sub.refl _, trivial⟩
      rintro t ⟨ht, htg⟩
      repeat' first | with_reducible refine fzD_ite (fun q => ?_) (fun q => ?_) | ((try conv => whnf); first
        | refine bs_d (fun q => ?_) (fun q => ?_) <;> (try simp (disch := ((try unfold I64); omega)) only [wi64_id, td] at q)
        | refine bs_n ?_
        | refine bs_i (fun q => ?_) (fun q => ?_)
        | refine pK_i (iaD_dn (i := s.i) (by first | rfl | omega | (refine Int.sub_eq_zero.mp ?_; simp (disch := ((try unfold I64); omega)) only [wi64_id, td]; omega)) (by omega)) ?_
        | refine pK_i (iaD_u64 (i := t.j) (by first | rfl | omega | (refine Int.sub_eq_zero.mp ?_; simp (disch := ((try unfold I64); omega)) only [wi64_id, td]; omega)) (by omega)) ?_
        | refine eqk rfl ?_
        | refine ffin _ rfl rfl hS (Sub.refl _) rfl ⟨?_, rfl, rfl⟩)
      · refine fnext (α := GB) ⟨t.j + 1, true⟩ ⟨by simp only; omega, by simp only [true_iff]; rw [take_sn (by omega)]; exact List.mem_append_left _ (htg.1 (by assumption))⟩ (by simp only; omega) (fstep_sub ⟨Sub.int (by first | rfl | omega | (refine Int.sub_eq_zero.mp ?_; simp (disch := ((try unfold I64); omega)) only [wi64_id, td]; omega)), Sub.refl _, Sub.refl _, Sub.refl _, Sub.refl _, Sub.refl _, Sub.refl _, trivial⟩)
      · refine fnext (α := GB) ⟨t.j + 1, true⟩ ⟨by simp only; omega, by simp only [true_iff]; rw [take_sn (by omega)]; exact List.mem_append_right _ (List.mem_singleton.2 (Eq.symm (by assumption)))⟩ (by simp only; omega) (fstep_sub ⟨Sub.int (by first | rfl | omega | (refine Int.sub_eq_zero.mp ?_; simp (disch := ((try unfold I64); omega)) only [wi64_id, td]; omega)), Sub.refl _, Sub.refl _, Sub.refl _, Sub.refl _, Sub.refl _, Sub.refl _, trivial⟩)
      · have hng : (Ds[s.i]!).inv ∉ L2.take t.j := fun hm => by have := htg.2 hm; simp_all
        refine fnext (α := GB) ⟨t.j + 1, false⟩ ⟨by simp only; omega, by simp only [Bool.false_eq_true, false_iff]; rw [take_sn (by omega), List.mem_append, List.mem_singleton]; rintro (hm | hm); exact hng hm; exact absurd hm.symm (by assumption)⟩ (by simp only; omega) (fstep_sub ⟨Sub.int (by first | rfl | omega | (refine Int.sub_eq_zero.mp ?_; simp (disch := ((try unfold I64); omega)) only [wi64_id, td]; omega)), Sub.refl _, Sub.refl _, Sub.refl _, Sub.refl _, Sub.refl _, Sub.refl _, trivial⟩)
      all_goals (have e1 : t.j = L2.length := by omega)
      all_goals rw [e1, List.take_length] at htg
      all_goals first
        | (exfalso
           first
             | exact absurd (hga (htg.1 (by assumption))) (by assumption)
             | (have h5 := hgb (fun hm => by have := htg.2 hm; simp_all); omega))
        | skip
      all_goals conv => whnf
      all_goals refine fnext (α := SN) ⟨s.i + 1⟩ (by simp only; omega) (by simp only; omega) ?_
      all_goals exact fstep_drop (J' := agJ p duns l day Ds N Ls C N2 L2) (Jx := [_]) (TK' := []) (TKx := []) rfl rfl ⟨Sub.int (by first | rfl | omega | (refine Int.sub_eq_zero.mp ?_; simp (disch := ((try unfold I64); omega)) only [wi64_id, td]; omega)), Sub.refl _, Sub.refl _, Sub.refl _, trivial⟩ (by simp [agJ, frSc, frD, FD.to, D.sc]) (agJ_sc ..)
    conv => whnf
    refine floop (α := SN) rfl rfl hS (fun s => s.i ≤ l.length) (fun s => l.length - s.i) (fun s => [(15, .d (.int .i64 s.i)), (2, .lp 0 0), (5, .lp 1 0)]) (fun _ => agJ p duns l day Ds N Ls C N2 L2) (fun _ => []) ⟨0⟩ (Nat.zero_le _) ?_ ?_
    · exact fstep_sub ⟨Sub.refl _, Sub.refl _, Sub.refl _, trivial⟩
    clear hs hof q s
    intro s hs
    repeat' first | with_reducible refine fzD_ite (fun q => ?_) (fun q => ?_) | ((try conv => whnf); first
      | refine bs_d (fun q => ?_) (fun q => ?_) <;> (try simp (disch := ((try unfold I64); omega)) only [wi64_id, td] at q)
      | refine bs_n ?_
      | refine bs_i (fun q => ?_) (fun q => ?_)
      | refine ck (by first | rfl | simp) rfl (head) ?_
      | refine cq (head) ?_
      | refine eqk rfl ?_
      | refine ffin _ rfl rfl hS (Sub.refl _) rfl ⟨?_, rfl, rfl⟩)
    rotate_left
    · rfl
    have hi1 : s.i < l.length := by omega
    have hxm := mem_at hi1
    have hop := Open _ (hl _ hxm)
    generalize hx : l[s.i]! = x at *
    refine floop (α := TB) rfl rfl hS (fun t => t.k ≤ N.length ∧ t.t = (((N.take t.k).map Nt.inv).count x.id : Nat)) (fun t => N.length - t.k) (fun t => [(17, .d (.int .i64 t.k)), (16, .d (.int .i64 t.t)), (15, .d (.int .i64 s.i)), (2, .lp 0 0), (5, .lp 1 0)]) (fun _ => agJ p duns l day Ds N Ls C N2 L2) (fun _ => []) ⟨0, 0⟩ ⟨Nat.zero_le _, by simp⟩ ?_ ?_
    · exact fstep_sub ⟨Sub.refl _, Sub.refl _, Sub.refl _, Sub.refl _, Sub.refl _, trivial⟩
    rintro t ⟨ht, htc⟩
    have hcb := List.count_le_length (a := x.id) (l := (N.take t.k).map Nt.inv)
    have hcl : ((N.take t.k).map Nt.inv).length ≤ t.k := by rw [List.length_map]; exact List.length_take_le ..
    have hof := refOf Ds (by omega) (N[t.k]!).inv
    have hiv : iaD 11 (.sl (ivs l)) (.int .i64 s.i) = some (.pe x.cs 0) := by rw [← hx]; exact iaD_iv rfl hi1
    repeat' first | with_reducible refine fzD_ite (fun q => ?_) (fun q => ?_) | ((try conv => whnf); first
      | refine bs_d (fun q => ?_) (fun q => ?_) <;> (try simp (disch := ((try unfold I64); omega)) only [wi64_id, td] at q)
      | refine bs_n ?_
      | refine bs_i (fun q => ?_) (fun q => ?_)
      | refine ck (by first | rfl | simp) rfl (hop) ?_
      | refine cq (hop) ?_
      | refine ck (by first | rfl | simp) rfl (hof) ?_
      | refine cq (hof) ?_
      | refine pK_i hiv ?_
      | refine pK_i (iaD_nt (i := t.k) (by first | rfl | omega | (refine Int.sub_eq_zero.mp ?_; simp (disch := ((try unfold I64); omega)) only [wi64_id, td]; omega)) (by omega)) ?_
      | refine eqk rfl ?_
      | refine ffin _ rfl rfl hS (Sub.refl _) rfl ⟨?_, rfl, rfl⟩)
    · exfalso; exact absurd (by assumption) (hnote _ (mem_at (i := t.k) (by omega)) x hxm (by assumption)).2.2.2
    · have hk : t.k < N.length := by omega
      have hid : (N[t.k]!).inv = x.id := by assumption
      conv => whnf
      refine fnext (α := TB) ⟨t.k + 1, t.t + 1⟩ ⟨by simp only; omega, ?_⟩ (by simp only; omega) ?_
      · simp only; rw [take_sn hk, List.map_append, List.count_append, htc, List.map_cons, List.map_nil, hid]; simp
      · exact fstep_drop (J' := agJ p duns l day Ds N Ls C N2 L2) (Jx := [_]) (TK' := []) (TKx := []) rfl rfl ⟨Sub.int (by first | rfl | omega | (refine Int.sub_eq_zero.mp ?_; simp (disch := ((try unfold I64); omega)) only [wi64_id, td]; omega)), Sub.int (by first | rfl | omega | (refine Int.sub_eq_zero.mp ?_; simp (disch := ((try unfold I64); omega)) only [wi64_id, td]; omega)), Sub.refl _, Sub.refl _, Sub.refl _, trivial⟩ (by simp [agJ, frSc, frD, FD.to, D.sc]) (agJ_sc ..)
    · exfalso; obtain ⟨_, _, hc, _⟩ := hnote _ (mem_at (i := t.k) (by omega)) x hxm (by assumption); exact absurd (by rw [hc, show (N[t.k]!).inv = x.id by assumption]) q
    · exfalso; exact absurd (hnote _ (mem_at (i := t.k) (by omega)) x hxm (by assumption)).2.1 q
    · exfalso; exact absurd (hnote _ (mem_at (i := t.k) (by omega)) x hxm (by assumption)).1 q
    · have hk : t.k < N.length := by omega
      conv => whnf
      refine fnext (α := TB) ⟨t.k + 1, t.t⟩ ⟨by simp only; omega, ?_⟩ (by simp only; omega) ?_
      · simp only; rw [take_sn hk, List.map_append, List.count_append, htc, List.map_cons, List.map_nil, List.count_singleton, if_neg (by simpa using q)]; simp
      · exact fstep_drop (J' := agJ p duns l day Ds N Ls C N2 L2) (Jx := [_]) (TK' := []) (TKx := []) rfl rfl ⟨Sub.int (by first | rfl | omega | (refine Int.sub_eq_zero.mp ?_; simp (disch := ((try unfold I64); omega)) only [wi64_id, td]; omega)), Sub.refl _, Sub.refl _, Sub.refl _, Sub.refl _, trivial⟩ (by simp [agJ, frSc, frD, FD.to, D.sc]) (agJ_sc ..)
    have e1 : t.k = N.length := by omega
    rw [e1, List.take_length] at htc hcb hcl
    obtain ⟨tk0, tt⟩ := t
    simp only at htc e1
    clear hof q
    conv => whnf
    refine floop (α := TB) rfl rfl hS (fun t => t.k ≤ Ls.length ∧ t.t = ((N.map Nt.inv).count x.id + (Ls.take t.k).count x.id : Nat)) (fun t => Ls.length - t.k) (fun t => [(19, .d (.int .i64 t.k)), (16, .d (.int .i64 t.t)), (15, .d (.int .i64 s.i)), (2, .lp 0 0), (5, .lp 1 0)]) (fun _ => agJ p duns l day Ds N Ls C N2 L2) (fun _ => []) ⟨0, tt⟩ ⟨Nat.zero_le _, by simpa using htc⟩ ?_ ?_
    · exact fstep_sub ⟨Sub.refl _, Sub.refl _, Sub.refl _, Sub.refl _, Sub.refl _, trivial⟩
    clear htc
    rintro t ⟨ht, htc⟩
    have hcb2 := List.count_le_length (a := x.id) (l := Ls.take t.k)
    have hcl2 : (Ls.take t.k).length ≤ t.k := List.length_take_le ..
    have hcl : (N.map Nt.inv).length ≤ N.length := by rw [List.length_map]; exact Nat.le_refl _
    repeat' first | with_reducible refine fzD_ite (fun q => ?_) (fun q => ?_) | ((try conv => whnf); first
      | refine bs_d (fun q => ?_) (fun q => ?_) <;> (try simp (disch := ((try unfold I64); omega)) only [wi64_id, td] at q)
      | refine bs_n ?_
      | refine bs_i (fun q => ?_) (fun q => ?_)
      | refine pK_i hiv ?_
      | refine pK_i (iaD_u64 (i := t.k) (by first | rfl | omega | (refine Int.sub_eq_zero.mp ?_; simp (disch := ((try unfold I64); omega)) only [wi64_id, td]; omega)) (by omega)) ?_
      | refine eqk rfl ?_
      | refine ffin _ rfl rfl hS (Sub.refl _) rfl ⟨?_, rfl, rfl⟩)
    · have hk : t.k < Ls.length := by omega
      have hid : Ls[t.k]! = x.id := by assumption
      conv => whnf
      refine fnext (α := TB) ⟨t.k + 1, t.t + 1⟩ ⟨by simp only; omega, ?_⟩ (by simp only; omega) ?_
      · simp only; rw [take_sn hk, List.count_append, htc, hid]; simp; omega
      · exact fstep_sub ⟨Sub.int (by first | rfl | omega | (refine Int.sub_eq_zero.mp ?_; simp (disch := ((try unfold I64); omega)) only [wi64_id, td]; omega)), Sub.int (by first | rfl | omega | (refine Int.sub_eq_zero.mp ?_; simp (disch := ((try unfold I64); omega)) only [wi64_id, td]; omega)), Sub.refl _, Sub.refl _, Sub.refl _, trivial⟩
    · have hk : t.k < Ls.length := by omega
      conv => whnf
      refine fnext (α := TB) ⟨t.k + 1, t.t⟩ ⟨by simp only; omega, ?_⟩ (by simp only; omega) ?_
      · simp only; rw [take_sn hk, List.count_append, htc, List.count_singleton, if_neg (by simpa using q)]; simp
      · exact fstep_sub ⟨Sub.int (by first | rfl | omega | (refine Int.sub_eq_zero.mp ?_; simp (disch := ((try unfold I64); omega)) only [wi64_id, td]; omega)), Sub.refl _, Sub.refl _, Sub.refl _, Sub.refl _, trivial⟩
    · exfalso
      have e2 : t.k = Ls.length := by omega
      have := htold x.id
      rw [e2, List.take_length] at htc
      omega
    · conv => whnf
      refine fnext (α := SN) ⟨s.i + 1⟩ (by simp only; omega) (by simp only; omega) ?_
      exact fstep_sub ⟨Sub.int (by first | rfl | omega | (refine Int.sub_eq_zero.mp ?_; simp (disch := ((try unfold I64); omega)) only [wi64_id, td]; omega)), Sub.refl _, Sub.refl _, trivial⟩
end Go.KL.YthaoejicodhgaaaDoor.U
