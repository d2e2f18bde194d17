/- NotesTell -/
import Derived.Test.YtgdidchpignbpaaNc
import Derived.Test.YtgdidchpignbpaaBa
import Derived.Test.YtgdidchpignbpaaKL29
import Derived.Test.YtgdidchpignbpaaRows
set_option linter.unusedVariables false
set_option linter.unusedSimpArgs false
set_option linter.unusedSectionVars false
set_option maxRecDepth 4000
namespace Go.KL.Ytgdidchpignbpaa
open Go Go.KL Go.RowKit Go.Proofs

theorem c3 : cFun E0.P 3 = some ⟨88, [(2, none)], .seq (.rg [⟨some 1, none, .box (.t 0) 28⟩, ⟨some 2, none, .mv (.k (.bool false))⟩]) (.seq (.seq (.rg [⟨some 13, none, .fa 0 (.t 1)⟩, ⟨some 14, none, .fa 4 (.t 13)⟩, ⟨some 15, none, .ld 1 false (.t 14)⟩, ⟨some 16, none, .len 0 (.t 15)⟩, ⟨some 17, none, .bin .gtr .leaf (.t 16) (.k (.int .i64 1000))⟩]) (.cond (.t 17) (.seq (.rg [⟨some 18, none, .call 15 []⟩, ⟨some 2, none, .mv (.t 18)⟩]) .ret) .skip)) (.seq (.rg [⟨some 20, none, .fa 5 (.t 1)⟩, ⟨some 21, none, .ld 11 true (.t 20)⟩, ⟨some 22, none, .call 16 [.t 21]⟩, ⟨some 19, none, .mv (.t 22)⟩, ⟨some 23, none, .ext 0 (.t 19)⟩, ⟨some 24, none, .ext 1 (.t 19)⟩, ⟨some 3, none, .alloc [.int .i64 0, .int .u8 0, .int .u64 0, .nilsl] 32⟩, ⟨none, none, .st 4 (.t 3) (.t 23)⟩, ⟨some 4, none, .mv (.t 24)⟩]) (.seq (.rg [⟨some 26, none, .fa 5 (.t 1)⟩, ⟨some 27, none, .ld 11 true (.t 26)⟩, ⟨some 28, none, .call 17 [.t 27]⟩, ⟨some 25, none, .mv (.t 28)⟩, ⟨some 29, none, .ext 0 (.t 25)⟩, ⟨some 30, none, .ext 1 (.t 25)⟩, ⟨some 5, none, .alloc [.int .i64 0, .int .u8 0, .int .u64 0, .nilsl] 32⟩, ⟨none, none, .st 4 (.t 5) (.t 29)⟩, ⟨some 6, none, .mv (.t 30)⟩]) (.seq (.rg [⟨some 32, none, .fa 0 (.t 1)⟩, ⟨some 33, none, .ld 5 true (.t 32)⟩, ⟨some 34, none, .fa 5 (.t 1)⟩, ⟨some 35, none, .ld 11 true (.t 34)⟩, ⟨some 36, none, .fa 16 (.t 1)⟩, ⟨some 37, none, .ld 1 false (.t 36)⟩, ⟨some 38, none, .call 18 [.t 33, .t 35, .t 37]⟩, ⟨some 31, none, .mv (.t 38)⟩, ⟨some 39, none, .ext 0 (.t 31)⟩, ⟨some 40, none, .ext 1 (.t 31)⟩, ⟨some 41, none, .ext 2 (.t 31)⟩, ⟨some 7, none, .alloc [.int .u64 0, .int .u64 0, .int .u64 0, .int .i64 0, .int .i64 0, .int .i64 0, .int .i64 0, .int .i64 0, .int .i64 0, .int .i64 0, .int .i64 0] 26⟩, ⟨some 8, none, .alloc [.int .i64 0, .int .u8 0, .int .u64 0, .nilsl] 32⟩, ⟨none, none, .st 11 (.t 7) (.t 39)⟩, ⟨none, none, .st 4 (.t 8) (.t 40)⟩, ⟨some 9, none, .mv (.t 41)⟩]) (.seq (.rg [⟨some 43, none, .fa 0 (.t 1)⟩, ⟨some 44, none, .ld 5 true (.t 43)⟩, ⟨some 45, none, .fa 5 (.t 1)⟩, ⟨some 46, none, .ld 11 true (.t 45)⟩, ⟨some 47, none, .fa 16 (.t 1)⟩, ⟨some 48, none, .ld 1 false (.t 47)⟩, ⟨some 49, none, .call 19 [.t 44, .t 46, .t 48]⟩, ⟨some 42, none, .mv (.t 49)⟩, ⟨some 50, none, .ext 0 (.t 42)⟩, ⟨some 51, none, .ext 1 (.t 42)⟩, ⟨some 52, none, .ext 2 (.t 42)⟩, ⟨some 10, none, .alloc [.int .u64 0, .int .u64 0, .int .u64 0, .int .i64 0, .int .i64 0, .int .i64 0, .int .i64 0, .int .i64 0, .int .i64 0, .int .i64 0, .int .i64 0] 26⟩, ⟨some 11, none, .alloc [.int .i64 0, .int .u8 0, .int .u64 0, .nilsl] 32⟩, ⟨none, none, .st 11 (.t 10) (.t 50)⟩, ⟨none, none, .st 4 (.t 11) (.t 51)⟩, ⟨some 12, none, .mv (.t 52)⟩]) (.seq (.rd [(⟨some 53, none, .ld 4 true (.t 3)⟩, none), (⟨some 54, none, .ld 4 true (.t 5)⟩, none), (⟨some 55, none, .call 20 [.t 53, .t 54]⟩, some []), (⟨some 56, none, .mv (.t 55)⟩, none), (⟨some 57, some (56, true), .mv (.t 4)⟩, none), (⟨some 58, some (56, true), .mv (.t 6)⟩, none), (⟨some 59, some (56, true), .bin .eql .leaf (.t 57) (.t 58)⟩, none), (⟨some 60, none, .pick (.t 56) (.t 59) (.k (.bool false))⟩, none), (⟨some 61, none, .mv (.t 60)⟩, none), (⟨some 62, some (61, true), .ld 11 true (.t 7)⟩, none), (⟨some 63, some (61, true), .ld 11 true (.t 10)⟩, none), (⟨some 64, some (61, true), .bin .eql (.agg [(0, .i), (1, .i), (2, .i), (3, .i), (4, .i), (5, .i), (6, .i), (7, .i), (8, .i), (9, .i), (10, .i)]) (.t 62) (.t 63)⟩, none), (⟨some 65, none, .pick (.t 61) (.t 64) (.k (.bool false))⟩, none), (⟨some 66, none, .mv (.t 65)⟩, none), (⟨some 67, some (66, true), .ld 4 true (.t 8)⟩, none), (⟨some 68, some (66, true), .ld 4 true (.t 11)⟩, none), (⟨some 69, some (66, true), .call 20 [.t 67, .t 68]⟩, some []), (⟨some 70, none, .pick (.t 66) (.t 69) (.k (.bool false))⟩, none), (⟨some 71, none, .mv (.t 70)⟩, none), (⟨some 72, some (71, true), .mv (.t 9)⟩, none), (⟨some 73, some (71, true), .mv (.t 12)⟩, none), (⟨some 74, some (71, true), .bin .eql .leaf (.t 72) (.t 73)⟩, none), (⟨some 75, none, .pick (.t 71) (.t 74) (.k (.bool false))⟩, none), (⟨some 76, none, .mv (.t 75)⟩, none), (⟨some 77, some (76, true), .fa 0 (.t 1)⟩, none), (⟨some 78, some (76, true), .ld 5 true (.t 77)⟩, none), (⟨some 79, some (76, true), .call 21 [.t 78]⟩, none), (⟨some 80, some (76, true), .fa 0 (.t 1)⟩, none), (⟨some 81, some (76, true), .ld 5 true (.t 80)⟩, none), (⟨some 82, some (76, true), .call 22 [.t 81]⟩, some []), (⟨some 83, some (76, true), .bin .eql .leaf (.t 79) (.t 82)⟩, none), (⟨some 84, none, .pick (.t 76) (.t 83) (.k (.bool false))⟩, none), (⟨some 85, none, .mv (.t 84)⟩, none), (⟨some 86, some (85, true), .call 15 []⟩, some []), (⟨some 87, none, .pick (.t 85) (.t 86) (.k (.bool false))⟩, none), (⟨some 2, none, .mv (.t 87)⟩, none)]) .ret))))))⟩ := by kernel_rfl

def askCs (n : Nn) (x : Iv) (df : Int) : List D := [.int .u64 n.id, .int .u64 n.inv, .int .i64 n.day, .int .i64 n.am, .str n.rs,
  .int .u64 x.id, .int .u64 x.cu, .int .u64 x.co, .int .i64 x.day, .int .i64 x.due, .int .i64 x.fr, .int .i64 x.nx, .int .i64 x.am, .int .i64 x.cr, .int .i64 x.pd, .int .i64 x.lo, .int .i64 df]
theorem writeQ_len (x : Iv) (n : Nn) (d o : Int) : (PL x (writeQ n d o)).length ≤ 4 := PL_len x _
set_option maxHeartbeats 4000000 in
theorem notesTell (n : Nn) (hn : n.R) (x : Iv) (hx : x.R) (df : Int) (hdf : I64 df) : Pure 3 [.agg (askCs n x df)] (.bool true) := by
  intro S tk
  by_cases hbig : (n.rs.size : Int) > 1000
  · refine ACalls.fgo c3 rfl fun hS => ?_
    repeat' first | with_reducible refine fzD_ite (fun q => ?_) (fun q => ?_) | ((try conv => whnf); first
      | refine bs_t (decide_eq_true hbig) ?_
      | refine bs_d (fun q => ?_) (fun q => ?_)
      | refine bs_n ?_
      | refine bs_i (fun q => ?_) (fun q => ?_)
      | refine ck (by first | rfl | simp) rfl (head) ?_
      | refine cq (head) ?_
      | refine eqk rfl ?_
      | refine ffin _ rfl rfl hS (Sub.refl _) rfl ⟨?_, rfl, rfl⟩)
    all_goals rfl
  have b1 := Bill x hx
  have b2 := refBill x hx
  have w1 := Write n hn x hx df hdf
  have w2 := refWrite n hn x hx df hdf
  have k1 := noteCheck n
  have k2 := refNoteCheck n
  have kc : (if n.ok then (0 : Int) else 2) = 0 ∨ (if n.ok then (0 : Int) else 2) = 2 := by by_cases h : n.ok <;> simp [h]
  generalize (if n.ok then (0 : Int) else 2) = cc at k1 k2 kc
  have sb := sameE ⟨x.day, 1, x.id⟩ (PL x (billP x)) (Nat.lt_of_le_of_lt (PL_len x (billP x)) (by simp [billP]))
  have sw := fun d o => sameE ⟨n.day, 2, n.id⟩ (PL x (writeQ n d o)) (by have := writeQ_len x n d o; omega)
  rw [billD] at b1 b2
  rw [writeD] at w1 w2
  by_cases hok : x.ok
  · rw [if_pos hok] at b1 b2
    by_cases hw : wok n x df
    · rw [if_pos hw] at w1 w2
      cases hc : x.credit n.am with
      | error e =>
        rw [hc] at w1 w2
        refine ACalls.fgo c3 rfl fun hS => ?_
        repeat' first | with_reducible refine fzD_ite (fun q => ?_) (fun q => ?_) | ((try conv => whnf); first
          | refine bs_f (decide_eq_false hbig) ?_
          | refine bs_t (decide_eq_true rfl) ?_
          | refine bs_and ?_
          | refine bs_d (fun q => ?_) (fun q => ?_)
          | refine bs_n ?_
          | refine bs_i (fun q => ?_) (fun q => ?_)
          | refine ck (by first | rfl | simp) rfl (b1) ?_
          | refine cq (b1) ?_
          | refine ck (by first | rfl | simp) rfl (b2) ?_
          | refine cq (b2) ?_
          | refine ck (by first | rfl | simp) rfl (w1) ?_
          | refine cq (w1) ?_
          | refine ck (by first | rfl | simp) rfl (w2) ?_
          | refine cq (w2) ?_
          | refine ck (by first | rfl | simp) rfl (k1) ?_
          | refine cq (k1) ?_
          | refine ck (by first | rfl | simp) rfl (k2) ?_
          | refine cq (k2) ?_
          | refine ck (by first | rfl | simp) rfl (sb) ?_
          | refine cq (sb) ?_
          | refine ck (by first | rfl | simp) rfl (sameZ) ?_
          | refine cq (sameZ) ?_
          | refine ck (by first | rfl | simp) rfl (head) ?_
          | refine cq (head) ?_
          | refine eqk rfl ?_
          | refine ffin _ rfl rfl hS (Sub.refl _) rfl ⟨?_, rfl, rfl⟩)
        all_goals rfl
      | ok p =>
        obtain ⟨now, over⟩ := p
        rw [hc] at w1 w2
        refine ACalls.fgo c3 rfl fun hS => ?_
        repeat' first | with_reducible refine fzD_ite (fun q => ?_) (fun q => ?_) | ((try conv => whnf); first
          | refine bs_f (decide_eq_false hbig) ?_
          | refine bs_t (decide_eq_true rfl) ?_
          | refine bs_and ?_
          | refine bs_d (fun q => ?_) (fun q => ?_)
          | refine bs_n ?_
          | refine bs_i (fun q => ?_) (fun q => ?_)
          | refine ck (by first | rfl | simp) rfl (b1) ?_
          | refine cq (b1) ?_
          | refine ck (by first | rfl | simp) rfl (b2) ?_
          | refine cq (b2) ?_
          | refine ck (by first | rfl | simp) rfl (w1) ?_
          | refine cq (w1) ?_
          | refine ck (by first | rfl | simp) rfl (w2) ?_
          | refine cq (w2) ?_
          | refine ck (by first | rfl | simp) rfl (k1) ?_
          | refine cq (k1) ?_
          | refine ck (by first | rfl | simp) rfl (k2) ?_
          | refine cq (k2) ?_
          | refine ck (by first | rfl | simp) rfl (sb) ?_
          | refine cq (sb) ?_
          | refine ck (by first | rfl | simp) rfl (sw _ _) ?_
          | refine cq (sw _ _) ?_
          | refine ck (by first | rfl | simp) rfl (head) ?_
          | refine cq (head) ?_
          | refine eqk rfl ?_
          | refine ffin _ rfl rfl hS (Sub.refl _) rfl ⟨?_, rfl, rfl⟩)
        all_goals rfl
    · rw [if_neg hw] at w1 w2
      refine ACalls.fgo c3 rfl fun hS => ?_
      repeat' first | with_reducible refine fzD_ite (fun q => ?_) (fun q => ?_) | ((try conv => whnf); first
        | refine bs_f (decide_eq_false hbig) ?_
        | refine bs_t (decide_eq_true rfl) ?_
        | refine bs_and ?_
        | refine bs_d (fun q => ?_) (fun q => ?_)
        | refine bs_n ?_
        | refine bs_i (fun q => ?_) (fun q => ?_)
        | refine ck (by first | rfl | simp) rfl (b1) ?_
        | refine cq (b1) ?_
        | refine ck (by first | rfl | simp) rfl (b2) ?_
        | refine cq (b2) ?_
        | refine ck (by first | rfl | simp) rfl (w1) ?_
        | refine cq (w1) ?_
        | refine ck (by first | rfl | simp) rfl (w2) ?_
        | refine cq (w2) ?_
        | refine ck (by first | rfl | simp) rfl (k1) ?_
        | refine cq (k1) ?_
        | refine ck (by first | rfl | simp) rfl (k2) ?_
        | refine cq (k2) ?_
        | refine ck (by first | rfl | simp) rfl (sb) ?_
        | refine cq (sb) ?_
        | refine ck (by first | rfl | simp) rfl (sameZ) ?_
        | refine cq (sameZ) ?_
        | refine ck (by first | rfl | simp) rfl (head) ?_
        | refine cq (head) ?_
        | refine eqk rfl ?_
        | refine ffin _ rfl rfl hS (Sub.refl _) rfl ⟨?_, rfl, rfl⟩)
      all_goals rfl
  · rw [if_neg hok] at b1 b2
    by_cases hw : wok n x df
    · rw [if_pos hw] at w1 w2
      cases hc : x.credit n.am with
      | error e =>
        rw [hc] at w1 w2
        refine ACalls.fgo c3 rfl fun hS => ?_
        repeat' first | with_reducible refine fzD_ite (fun q => ?_) (fun q => ?_) | ((try conv => whnf); first
          | refine bs_f (decide_eq_false hbig) ?_
          | refine bs_t (decide_eq_true rfl) ?_
          | refine bs_and ?_
          | refine bs_d (fun q => ?_) (fun q => ?_)
          | refine bs_n ?_
          | refine bs_i (fun q => ?_) (fun q => ?_)
          | refine ck (by first | rfl | simp) rfl (b1) ?_
          | refine cq (b1) ?_
          | refine ck (by first | rfl | simp) rfl (b2) ?_
          | refine cq (b2) ?_
          | refine ck (by first | rfl | simp) rfl (w1) ?_
          | refine cq (w1) ?_
          | refine ck (by first | rfl | simp) rfl (w2) ?_
          | refine cq (w2) ?_
          | refine ck (by first | rfl | simp) rfl (k1) ?_
          | refine cq (k1) ?_
          | refine ck (by first | rfl | simp) rfl (k2) ?_
          | refine cq (k2) ?_
          | refine ck (by first | rfl | simp) rfl (sameZ) ?_
          | refine cq (sameZ) ?_
          | refine ck (by first | rfl | simp) rfl (head) ?_
          | refine cq (head) ?_
          | refine eqk rfl ?_
          | refine ffin _ rfl rfl hS (Sub.refl _) rfl ⟨?_, rfl, rfl⟩)
        all_goals rfl
      | ok p =>
        obtain ⟨now, over⟩ := p
        exact absurd (credit_ok hc).1 hok
    · rw [if_neg hw] at w1 w2
      refine ACalls.fgo c3 rfl fun hS => ?_
      repeat' first | with_reducible refine fzD_ite (fun q => ?_) (fun q => ?_) | ((try conv => whnf); first
        | refine bs_f (decide_eq_false hbig) ?_
        | refine bs_t (decide_eq_true rfl) ?_
        | refine bs_and ?_
        | refine bs_d (fun q => ?_) (fun q => ?_)
        | refine bs_n ?_
        | refine bs_i (fun q => ?_) (fun q => ?_)
        | refine ck (by first | rfl | simp) rfl (b1) ?_
        | refine cq (b1) ?_
        | refine ck (by first | rfl | simp) rfl (b2) ?_
        | refine cq (b2) ?_
        | refine ck (by first | rfl | simp) rfl (w1) ?_
        | refine cq (w1) ?_
        | refine ck (by first | rfl | simp) rfl (w2) ?_
        | refine cq (w2) ?_
        | refine ck (by first | rfl | simp) rfl (k1) ?_
        | refine cq (k1) ?_
        | refine ck (by first | rfl | simp) rfl (k2) ?_
        | refine cq (k2) ?_
        | refine ck (by first | rfl | simp) rfl (sameZ) ?_
        | refine cq (sameZ) ?_
        | refine ck (by first | rfl | simp) rfl (head) ?_
        | refine cq (head) ?_
        | refine eqk rfl ?_
        | refine ffin _ rfl rfl hS (Sub.refl _) rfl ⟨?_, rfl, rfl⟩)
      all_goals rfl
end Go.KL.Ytgdidchpignbpaa

/- what every row without laid variables wants -/
set_option linter.unusedVariables false
set_option linter.unusedSimpArgs false
set_option maxRecDepth 100000
set_option maxHeartbeats 4000000
namespace Go.KL.Ytgdidchpignbpaa
open Go Go.KL Go.RowKit Go.Proofs Go.Proofs.Ytgdidchpignbpaa Go.ChangeShapes Go.WideShapes

theorem ownP : ownKnob Try.prog.godebug = none := by kernel_rfl
theorem laidOutP : laidOutB Try.prog = true := by kernel_rfl
theorem gokP (W : World) : GRel E0 (cfgW W) := fun g e he => by cases he
theorem noX {p : World → Tape → Input → Prop} {q1 q2 q3 q4 : World → Tape → Input → Prop} {A B : World → Tape → Input → Prop}
    (h : ∃ w t i, q1 w t i ∧ q2 w t i ∧ q3 w t i ∧ q4 w t i ∧ ((A w t i ∧ True) ∧ B w t i) ∧ p w t i) : ∃ w t i, q1 w t i ∧ q2 w t i ∧ q3 w t i ∧ q4 w t i ∧ (A w t i ∧ B w t i) ∧ p w t i := by
  obtain ⟨w, t, i, a, b, c, d, ⟨⟨e, _⟩, g⟩, h⟩ := h
  exact ⟨w, t, i, a, b, c, d, ⟨e, g⟩, h⟩
end Go.KL.Ytgdidchpignbpaa

/- notes: how an invoice, a note are read -/
set_option linter.unusedVariables false
set_option linter.unusedSimpArgs false
set_option maxRecDepth 100000
namespace Go.KL.Ytgdidchpignbpaa
open Go Go.KL Go.RowKit Go.Proofs

def shInv : Sh := .agg [.int .u64, .int .u64, .int .u64, .int .i64, .int .i64, .int .i64, .int .i64, .int .i64, .int .i64, .int .i64, .int .i64]
theorem ok_inv {H : Type} {d : DataW H} (h : shInv.ok d) : ∃ x : Iv, x.R ∧ shInv.cells d = x.cs := by
  obtain ⟨parts, rfl, d1, _, rfl, ⟨n1, rfl, w1⟩, d2, _, rfl, ⟨n2, rfl, w2⟩, d3, _, rfl, ⟨n3, rfl, w3⟩, d4, _, rfl, ⟨n4, rfl, w4⟩, d5, _, rfl, ⟨n5, rfl, w5⟩, d6, _, rfl, ⟨n6, rfl, w6⟩, d7, _, rfl, ⟨n7, rfl, w7⟩, d8, _, rfl, ⟨n8, rfl, w8⟩, d9, _, rfl, ⟨n9, rfl, w9⟩, d10, _, rfl, ⟨n10, rfl, w10⟩, d11, _, rfl, ⟨n11, rfl, w11⟩, rfl⟩ := h
  exact ⟨⟨n1, n2, n3, n4, n5, n6, n7, n8, n9, n10, n11⟩, ⟨ok_u64 w1, ok_u64 w2, ok_u64 w3, ok_i64 w4, ok_i64 w5, ok_i64 w6, ok_i64 w7, ok_i64 w8, ok_i64 w9, ok_i64 w10, ok_i64 w11⟩, rfl⟩
def shNt : Sh := .agg [.int .u64, .int .u64, .int .i64, .int .i64, .str]
theorem ok_nt {H : Type} {d : DataW H} (h : shNt.ok d) : ∃ x : Nn, x.R ∧ shNt.cells d = x.cs := by
  obtain ⟨parts, rfl, d1, _, rfl, ⟨n1, rfl, w1⟩, d2, _, rfl, ⟨n2, rfl, w2⟩, d3, _, rfl, ⟨n3, rfl, w3⟩, d4, _, rfl, ⟨n4, rfl, w4⟩, d5, _, rfl, ⟨s5, rfl, w5⟩, rfl⟩ := h
  exact ⟨⟨n1, n2, n3, n4, ⟨s5.toArray⟩⟩, ⟨ok_u64 w1, ok_u64 w2, ok_i64 w3, ok_i64 w4, by show s5.toArray.size < _; simp only [List.size_toArray]; unfold maxLen at w5; omega⟩, rfl⟩
def shAsk : Sh := .agg [shNt, shInv, .int .i64]
theorem ok_ask {H : Type} {d : DataW H} (h : shAsk.ok d) : ∃ (n : Nn) (x : Iv) (df : Int), n.R ∧ x.R ∧ I64 df ∧ shAsk.cells d = askCs n x df := by
  obtain ⟨parts, rfl, d1, _, rfl, h1, d2, _, rfl, h2, d3, _, rfl, ⟨n3, rfl, w3⟩, rfl⟩ := h
  obtain ⟨n, hn, c1⟩ := ok_nt h1
  obtain ⟨x, hx, c2⟩ := ok_inv h2
  refine ⟨n, x, n3, hn, hx, ok_i64 w3, ?_⟩
  show shNt.cells d1 ++ (shInv.cells d2 ++ (Sh.cells (.int .i64) _ ++ [])) = _
  rw [c1, c2]; rfl
end Go.KL.Ytgdidchpignbpaa
