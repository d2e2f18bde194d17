/- The walk by reckoning is sound. -/
import Derived.Test.YtjjdfplonbgpbaaDoorKL23
set_option linter.unusedVariables false
set_option linter.unusedSimpArgs false
namespace Go.KL
open Go Go.RowKit

def ffA : Nat → List D → Fr
  | _, [] => []
  | i, d :: r => (i, .d d) :: ffA (i + 1) r

theorem ffA_frD (n : Nat) : ∀ (i : Nat) (ds : List D), frD n (ffA i ds) = frA i ds
  | _, [] => rfl
  | i, d :: r => by simp only [ffA, frD, frA, FD.to, ffA_frD n (i + 1) r]

def fRes (n0 : Nat) (fr : Fr) (J : List O) : List (Nat × Option (Nat × Bool)) → (List D → Prop) → Prop
  | [], K => K []
  | (t, none) :: r, K => fzT n0 (fget fr t) fun d => fRes n0 fr J r fun ds => K (d :: ds)
  | (t, some (n, ag)) :: r, K => match fget fr t with
    | .lp k o => match J[k]? with
      | some (.arr cs) => pK (rdC cs o n ag) fun d => fzD d fun d => fRes n0 fr J r fun ds => K (d :: ds)
      | _ => False
    | .d _ => False

structure FFin (E : Env) (n0 m0 : Nat) (S J : List O) (T TK : Tks) (d : D) (Post : D → List O → Tks → Prop) : Prop where
  h : ∃ d' S' tk', Shift E n0 m0 ⟨[(0, d)], S ++ J, T ++ TK⟩ ⟨[(0, d')], S', tk'⟩ ∧ Post d' S' tk'

def FRet (E : Env) (n0 m0 : Nat) (res : List (Nat × Option (Nat × Bool))) (Post : D → List O → Tks → Prop) : X → FK := fun x fr S J T TK =>
  match x with
  | .ex _ => False
  | .nm => fRes n0 fr J res fun ds => FFin E n0 m0 S J T TK (tupD ds) Post
  | .rt => fRes n0 fr J res fun ds => FFin E n0 m0 S J T TK (tupD ds) Post

/-! ## soundness -/

theorem pK_e {o : Option D} {K : D → Prop} (h : pK o K) : ∃ d, o = some d ∧ K d := by
  cases o with
  | none => exact h.elim
  | some d => exact ⟨d, rfl, h⟩
theorem bs_e {b : Bool} {A : Prop} (h : bs b A False) : b = true ∧ A := by
  cases b with
  | false => exact h.elim
  | true => exact ⟨rfl, h⟩

/-- what goes on, seen from the small code -/
def kR (n0 m0 : Nat) (K : FD → List O → List O → Tks → Tks → Prop) : D → List O → Tks → Prop := fun d S' tk' =>
  ∃ fd S J T TK, d = FD.to n0 fd ∧ S' = S ++ J ∧ tk' = T ++ TK ∧ S.length = n0 ∧ T.length = m0 ∧ K fd S J T TK

theorem kAll_kR {n0 m0 : Nat} {K : FD → List O → List O → Tks → Tks → Prop} (d : D) (S' : List O) (tk' : Tks) (h : kAll n0 m0 K d S' tk') : kR n0 m0 K d S' tk' := by
  obtain ⟨S, J, T, TK, h1, h2, h3, h4, h5⟩ := h
  exact ⟨.d d, S, J, T, TK, rfl, h1, h2, h3, h4, (fzD_eq _ _).1 h5⟩

section
variable {E : Env} {n0 m0 : Nat} {fr : Fr} {S J : List O} {T TK : Tks}

theorem fpure_sound {i : Ins} {K : FD → Prop} (hn : S.length = n0) (h : fpure E n0 i fr S J K) : ∃ fd, pv E (frD n0 fr) (S ++ J) i = some (FD.to n0 fd) ∧ K fd := by
  have hlk : ∀ k, (S ++ J)[n0 + k]? = J[k]? := fun k => hn ▸ lk k
  have gen : ∀ (i : Ins) (h : pK (pv E (frD n0 fr) (S ++ J) i) fun d => fzP i d fun d => K (.d d)), ∃ fd, pv E (frD n0 fr) (S ++ J) i = some (FD.to n0 fd) ∧ K fd := fun i h => by
    obtain ⟨d, h1, h2⟩ := pK_e h
    exact ⟨.d d, h1, (fzP_eq _ _ _).1 h2⟩
  have gen' : ∀ (o : Option D) (h : pK o fun d => fzD d fun d => K (.d d)), ∃ fd, o = some (FD.to n0 fd) ∧ K fd := fun o h => by
    obtain ⟨d, h1, h2⟩ := pK_e h
    exact ⟨.d d, h1, (fzD_eq _ _).1 h2⟩
  cases i
  case mv x =>
    simp only [fpure, fzF_eq] at h
    exact ⟨_, by simp only [pv, fev_to], h⟩
  case fa off x =>
    simp only [fpure] at h
    simp only [pv, ← fev_to]
    split at h
    · rename_i k o he
      rw [he]
      rw [fzN_eq] at h
      exact ⟨_, rfl, h⟩
    · rename_i y he
      rw [he]
      obtain ⟨d, h1, h2⟩ := pK_e h
      exact ⟨.d d, h1, h2⟩
  case iaA len sz x j =>
    simp only [fpure] at h
    simp only [pv, ← fev_to]
    split at h
    · rename_i k o k' n hx hj
      rw [hx, hj]
      obtain ⟨d, h1, h2⟩ := pK_e h
      rw [fzN_eq] at h2
      simp only [FD.to]
      split at h1
      · rename_i hc
        rw [if_pos hc]
        exact ⟨_, rfl, h2⟩
      · cases h1
    · obtain ⟨d, h1, h2⟩ := pK_e h
      exact ⟨.d d, h1, (fzD_eq _ _).1 h2⟩
  case nilck x =>
    simp only [fpure] at h
    split at h
    · rename_i k o he
      simp only [pv, ← fev_to, he]
      exact ⟨_, rfl, h⟩
    · exact gen' _ h
  case ld n ag x =>
    simp only [fpure] at h
    split at h
    · rename_i k o he
      simp only [pv, ← fev_to, he, FD.to, hlk]
      split at h
      · rename_i cs hj
        rw [hj]
        obtain ⟨d, h1, h2⟩ := pK_e h
        exact ⟨.d d, h1, (fzD_eq _ _).1 h2⟩
      · exact h.elim
    · exact gen' _ h
  case ia sz x j => simp only [fpure, fzT_eq, fev_to] at h; exact gen' _ h
  case bin op q x y => simp only [fpure, fzT_eq, fev_to] at h; exact gen' _ h
  case ixS x j => simp only [fpure, fzT_eq, fev_to] at h; exact gen' _ h
  case ixA len sz ag x j => simp only [fpure, fzT_eq, fev_to] at h; exact gen' _ h
  case slS x lo hi => simp only [fpure, fzT_eq, fev_to, fzO_eq] at h; exact gen' _ h
  case slL sz x lo hi mx => simp only [fpure, fzT_eq, fev_to, fzO_eq] at h; exact gen' _ h
  case len q x => simp only [fpure, fzT_eq, fev_to] at h; exact gen' _ h
  case build zs parts => simp only [fpure, fzPP_eq] at h; exact gen' _ h
  case buildS n sz zs parts e =>
    simp only [fpure, fzQQ_eq] at h
    obtain ⟨d, h1, h2⟩ := pK_e h
    exact ⟨.d d, h1, (fzP_eq _ _ _).1 h2⟩
  case mm mx xs =>
    simp only [fpure, fzEvs_eq] at h
    obtain ⟨d, h1, h2⟩ := pK_e h
    refine ⟨.d d, ?_, h2⟩
    simp only [FD.to]
    rw [← h1]
    simp only [pv]
    cases hx : evs E (frD n0 fr) xs with
    | nil => cases mx <;> rfl
    | cons d r => cases mx <;> simp only [mmF, mmMax_eq, mmMin_eq]
  case mkfn f caps => simp only [fpure, fzEvs_eq] at h; exact ⟨.d _, rfl, h⟩
  case mkbm f fs caps => simp only [fpure, fzEvs_eq] at h; exact ⟨.d _, rfl, h⟩
  case mget kt z ok x k =>
    simp only [fpure, fzT_eq, fev_to] at h
    exact gen' _ h
  case ent x =>
    simp only [fpure, fzT_eq, fev_to] at h
    exact gen' _ h
  all_goals exact gen _ h

theorem fop_sound {i : Ins} {K : FD → List O → List O → Tks → Tks → Prop} (hn : S.length = n0) (hm : T.length = m0) (h : fop E n0 m0 i fr S J T TK K) : aop E i (frD n0 fr) (S ++ J) (T ++ TK) (kR n0 m0 K) := by
  have hlk : ∀ k, (S ++ J)[n0 + k]? = J[k]? := fun k => hn ▸ lk k
  have pur : ∀ i, isPure i = true → fpure E n0 i fr S J (fun d => K d S J T TK) → aop E i (frD n0 fr) (S ++ J) (T ++ TK) (kR n0 m0 K) := fun i hi h => by
    obtain ⟨fd, h1, h2⟩ := fpure_sound hn h
    rw [aop_pure hi, h1]
    exact ⟨fd, S, J, T, TK, rfl, rfl, rfl, hn, hm, h2⟩
  cases i
  case alloc zs T' =>
    simp only [fop, fzK_eq0, fzL_eq] at h
    exact ⟨.lp J.length 0, S, J ++ [.arr zs], T, TK, by simp only [FD.to, List.length_append, hn], by rw [List.append_assoc], rfl, hn, hm, h⟩
  case box x T' =>
    simp only [fop, fzT_eq, fev_to] at h
    obtain ⟨h1, h2⟩ := bs_e h
    simp only [fzK_eq0, fzL_eq] at h2
    rw [Bool.and_eq_true] at h1
    exact ⟨h1, .lp J.length 0, S, J ++ [.arr _], T, TK, by simp only [FD.to, List.length_append, hn], by rw [List.append_assoc], rfl, hn, hm, h2⟩
  case st n x v =>
    simp only [fop] at h
    split at h
    · rename_i k o he
      split at h
      · rename_i cs hj
        simp only [fzT_eq, fev_to] at h
        obtain ⟨h1, h2⟩ := bs_e h
        simp only [fzL_eq] at h2
        simp only [stOK, Bool.and_eq_true] at h1
        obtain ⟨⟨⟨a1, a2⟩, a3⟩, a4⟩ := h1
        simp only [aop, ← fev_to (n := n0) x, he, FD.to, hlk, hj]
        refine ⟨⟨a1, a2, Nat.eq_of_beq_eq_true a3, Nat.le_of_ble_eq_true a4⟩, .d .top, S, J.set k (.arr _), T, TK, rfl, ?_, rfl, hn, hm, h2⟩
        rw [← hn, ls]
      · exact h.elim
    · exact aop_mono kAll_kR h.h
  case app => exact aop_mono kAll_kR h.h
  case mkmap kt =>
    simp only [fop, fzK_eq0, fzL_eq] at h
    exact ⟨.d (.map (n0 + J.length)), S, J ++ [.map kt [] 0], T, TK, by simp only [FD.to, List.length_append, hn], by rw [List.append_assoc], rfl, hn, hm, h⟩
  case mset => exact aop_mono kAll_kR h.h
  case ment => exact aop_mono kAll_kR h.h
  case mest => exact aop_mono kAll_kR h.h
  case mdel => exact aop_mono kAll_kR h.h
  case rngM => exact aop_mono kAll_kR h.h
  case nxt => exact aop_mono kAll_kR h.h
  case mksl => exact aop_mono kAll_kR h.h
  case call f args =>
    simp only [fop, fzEvs_eq] at h
    exact h.h.mono kAll_kR
  case callv x args =>
    simp only [fop] at h
    split at h
    · rename_i f caps he
      simp only [fzEvs_eq, fzL_eq] at h
      obtain ⟨h1, h2⟩ := bs_e h
      simp only [aop, ← fev_to (n := n0) x, he, FD.to]
      exact ⟨h1, h2.h.mono kAll_kR⟩
    · rename_i f fs caps he
      simp only [fzEvs_eq, fzL_eq] at h
      obtain ⟨h1, h2⟩ := bs_e h
      simp only [aop, ← fev_to (n := n0) x, he, FD.to]
      exact ⟨h1, h2.h.mono kAll_kR⟩
    · rename_i id he
      simp only [fzEvs_eq] at h
      simp only [aop, ← fev_to (n := n0) x, he, FD.to]
      exact h.h.mono kAll_kR
    · exact h.elim
  case extn f args =>
    simp only [fop, fzEvs_eq] at h
    obtain ⟨d, h1, h2⟩ := h.h
    exact ⟨d, h1, .d d, S, J, T, TK, rfl, rfl, rfl, hn, hm, (fzD_eq _ _).1 h2⟩
  all_goals exact pur _ rfl h

theorem fq_sound {i : Ins} {K : FD → Prop} (hn : S.length = n0) (h : fq E n0 i fr S J T TK K) : aq1 E i (frD n0 fr) (S ++ J) (T ++ TK) (fun d => ∃ fd, d = FD.to n0 fd ∧ K fd) := by
  have pur : ∀ i, isPure i = true → fpure E n0 i fr S J K → aq1 E i (frD n0 fr) (S ++ J) (T ++ TK) (fun d => ∃ fd, d = FD.to n0 fd ∧ K fd) := fun i hi h => by
    obtain ⟨fd, h1, h2⟩ := fpure_sound hn h
    rw [aq1_pure hi, h1]
    exact ⟨fd, rfl, h2⟩
  cases i
  case call f args =>
    simp only [fq, fzEvs_eq] at h
    obtain ⟨d, h1, h2⟩ := h.h
    exact ⟨d, h1, .d d, rfl, (fzD_eq _ _).1 h2⟩
  case callv x args =>
    simp only [fq] at h
    split at h
    · rename_i f caps he
      simp only [fzEvs_eq, fzL_eq] at h
      obtain ⟨h1, h2⟩ := bs_e h
      obtain ⟨d, h3, h4⟩ := h2.h
      simp only [aq1, ← fev_to (n := n0) x, he, FD.to]
      exact ⟨h1, d, h3, .d d, rfl, (fzD_eq _ _).1 h4⟩
    · rename_i f fs caps he
      simp only [fzEvs_eq, fzL_eq] at h
      obtain ⟨h1, h2⟩ := bs_e h
      obtain ⟨d, h3, h4⟩ := h2.h
      simp only [aq1, ← fev_to (n := n0) x, he, FD.to]
      exact ⟨h1, d, h3, .d d, rfl, (fzD_eq _ _).1 h4⟩
    · exact h.elim
  case extn f args =>
    simp only [fq, fzEvs_eq] at h
    obtain ⟨d, h1, h2⟩ := h.h
    exact ⟨d, h1, .d d, rfl, (fzD_eq _ _).1 h2⟩
  case alloc => exact h.elim
  case box => exact h.elim
  case st => exact h.elim
  case app => exact h.elim
  case mkmap => exact h.elim
  case mset => exact h.elim
  case ment => exact h.elim
  case mest => exact h.elim
  case mdel => exact h.elim
  case rngM => exact h.elim
  case nxt => exact h.elim
  case mksl => exact h.elim
  all_goals exact pur _ rfl h

theorem fgu_e {t : Nat} {b : Bool} {A B : Prop} (h : fgu fr t b A B) : (∃ b', fget fr t = .d (.bool b') ∧ (b' = b → A) ∧ (b' ≠ b → B)) ∨ (fget fr t = .d .und ∧ B) := by
  unfold fgu at h
  split at h
  · rename_i b' he
    left
    refine ⟨b', he, ?_, ?_⟩ <;> cases b' <;> cases b <;> simp_all
  · rename_i he
    exact .inr ⟨he, h⟩
  · exact h.elim

theorem fgd_sound {dst g : _} {i : Ins} {K : FD → List O → List O → Tks → Tks → Prop} (hn : S.length = n0) (hm : T.length = m0) (h : fgd E n0 m0 g i fr S J T TK K) : gD E ⟨dst, g, i⟩ (frD n0 fr) (S ++ J) (T ++ TK) (kR n0 m0 K) := by
  unfold fgd at h
  split at h
  · exact fop_sound hn hm h
  · rename_i t b
    rcases fgu_e h with ⟨b', h1, h2, h3⟩ | ⟨h1, h3⟩
    · simp only [gD, get_frD, h1, FD.to]
      exact ⟨fun e => fop_sound hn hm (h2 e), fun e => ⟨.d .und, S, J, T, TK, rfl, rfl, rfl, hn, hm, h3 e⟩⟩
    · simp only [gD, get_frD, h1, FD.to]
      exact ⟨.d .und, S, J, T, TK, rfl, rfl, rfl, hn, hm, h3⟩

theorem fgq_sound {dst g : _} {i : Ins} {K : FD → Prop} (hn : S.length = n0) (h : fgq E n0 g i fr S J T TK K) : gQ E ⟨dst, g, i⟩ (frD n0 fr) (S ++ J) (T ++ TK) (fun d => ∃ fd, d = FD.to n0 fd ∧ K fd) := by
  unfold fgq at h
  split at h
  · exact fq_sound hn h
  · rename_i t b
    rcases fgu_e h with ⟨b', h1, h2, h3⟩ | ⟨h1, h3⟩
    · simp only [gQ, get_frD, h1, FD.to]
      exact ⟨fun e => fq_sound hn (h2 e), fun e => ⟨.d .und, rfl, h3 e⟩⟩
    · simp only [gQ, get_frD, h1, FD.to]
      exact ⟨.d .und, rfl, h3⟩

theorem fput_e {dst : Option Nat} {d : FD} {K : Fr → Prop} (h : fput dst d fr K) : ∃ fr', frD n0 fr' = putf dst (d.to n0) (frD n0 fr) ∧ K fr' := by
  cases dst with
  | none => exact ⟨fr, rfl, h⟩
  | some t => exact ⟨(t, d) :: fr, rfl, h⟩

end

/-- a continuation, seen from the small code -/
def kS (n0 m0 : Nat) (K : FK) : St → Prop := fun st => ∃ fr S J T TK, st = sT n0 fr S J T TK ∧ S.length = n0 ∧ T.length = m0 ∧ K fr S J T TK

theorem gD_mono {E : Env} {ci : CI} {fr : List (Nat × D)} {S : List O} {tk : Tks} {K K' : D → List O → Tks → Prop} (h : ∀ d S tk, K d S tk → K' d S tk) (hp : gD E ci fr S tk K) : gD E ci fr S tk K' := by
  unfold gD at hp ⊢
  split at hp
  · exact aop_mono h hp
  · split at hp
    · exact ⟨fun e => aop_mono h (hp.1 e), fun e => h _ _ _ (hp.2 e)⟩
    · exact h _ _ _ hp
    · exact hp.elim

theorem aq1_mono {E : Env} {i : Ins} {fr : List (Nat × D)} {S : List O} {tk : Tks} {K K' : D → Prop} (h : ∀ d, K d → K' d) (hp : aq1 E i fr S tk K) : aq1 E i fr S tk K' := by
  cases i <;> simp only [aq1] at hp ⊢
  case call => obtain ⟨d, h1, h2⟩ := hp; exact ⟨d, h1, h d h2⟩
  case callv =>
    split at hp
    · obtain ⟨h0, d, h1, h2⟩ := hp; exact ⟨h0, d, h1, h d h2⟩
    · obtain ⟨h0, d, h1, h2⟩ := hp; exact ⟨h0, d, h1, h d h2⟩
    · exact hp.elim
  case extn => obtain ⟨d, h1, h2⟩ := hp; exact ⟨d, h1, h d h2⟩
  all_goals first
    | exact hp.elim
    | (split at hp
       · exact h _ hp
       · exact hp.elim)
theorem gQ_mono {E : Env} {ci : CI} {fr : List (Nat × D)} {S : List O} {tk : Tks} {K K' : D → Prop} (h : ∀ d, K d → K' d) (hp : gQ E ci fr S tk K) : gQ E ci fr S tk K' := by
  unfold gQ at hp ⊢
  split at hp
  · exact aq1_mono h hp
  · split at hp
    · exact ⟨fun e => aq1_mono h (hp.1 e), fun e => h _ (hp.2 e)⟩
    · exact h _ hp
    · exact hp.elim

theorem fops_sound {E : Env} {n0 m0 : Nat} : ∀ (l : List CI) {fr : Fr} {S J : List O} {T TK : Tks} {K : FK}, S.length = n0 → T.length = m0 → fops E n0 m0 l fr S J T TK K → aops E l (sT n0 fr S J T TK) (kS n0 m0 K)
  | [], fr, S, J, T, TK, K, hn, hm, h => ⟨fr, S, J, T, TK, rfl, hn, hm, h⟩
  | ⟨dst, g, i⟩ :: r, fr, S, J, T, TK, K, hn, hm, h => by
    refine gD_mono ?_ (fgd_sound (dst := dst) hn hm h)
    rintro d S' tk' ⟨fd, S, J, T, TK, rfl, rfl, rfl, hn, hm, hk⟩
    obtain ⟨fr', h1, h2⟩ := fput_e (n0 := n0) hk
    simp only
    rw [← h1]
    exact fops_sound r hn hm h2

theorem fgetd_to {n0 : Nat} {fr : Fr} (x : Option Nat) : getd (frD n0 fr) x = FD.to n0 (fgetd fr x) := by
  cases x with
  | none => rfl
  | some t => exact get_frD fr t
theorem fchks_sound {E : Env} {n0 : Nat} : ∀ (rs : List CI) {fr : Fr} {S J : List O} {T TK : Tks} {X X' : Prop}, S.length = n0 → (X → X') → fchks E n0 rs fr S J T TK X → chks E rs (frD n0 fr) (S ++ J) (T ++ TK) X'
  | [], fr, S, J, T, TK, X, X', hn, hx, h => hx h
  | ⟨dst, g, i⟩ :: r, fr, S, J, T, TK, X, X', hn, hx, h => by
    refine gQ_mono ?_ (fgq_sound (dst := dst) hn h)
    rintro d ⟨fd, rfl, hk⟩
    obtain ⟨rfl, h2⟩ := hk.h
    exact ⟨(fgetd_to dst).symm, fchks_sound r hn hx h2⟩

theorem fqs_sound {E : Env} {n0 m0 : Nat} : ∀ (l : List (CI × Option (List CI))) {fr : Fr} {S J : List O} {T TK : Tks} {K : FK}, S.length = n0 → T.length = m0 → fqs E n0 m0 l fr S J T TK K → aqs E l (sT n0 fr S J T TK) (kS n0 m0 K)
  | [], fr, S, J, T, TK, K, hn, hm, h => ⟨fr, S, J, T, TK, rfl, hn, hm, h⟩
  | (⟨dst, g, i⟩, some rs) :: r, fr, S, J, T, TK, K, hn, hm, h => by
    refine gD_mono ?_ (fgd_sound (dst := dst) hn hm h)
    rintro d S' tk' ⟨fd, S, J, T, TK, rfl, rfl, rfl, hn, hm, hk⟩
    refine fchks_sound rs hn ?_ hk
    intro hk
    obtain ⟨fr', h1, h2⟩ := fput_e (n0 := n0) hk
    simp only
    rw [← h1]
    exact fqs_sound r hn hm h2
  | (⟨dst, g, i⟩, none) :: r, fr, S, J, T, TK, K, hn, hm, h => by
    refine gQ_mono ?_ (fgq_sound (dst := dst) hn h)
    rintro d ⟨fd, rfl, hk⟩
    obtain ⟨fr', h1, h2⟩ := fput_e (n0 := n0) hk
    simp only
    rw [← h1]
    exact fqs_sound r hn hm h2

def kX (n0 m0 : Nat) (Q : X → FK) : X → St → Prop := fun x => kS n0 m0 (Q x)

theorem fWp_sound {E : Env} {n0 m0 : Nat} : ∀ (ac : AC) {fr : Fr} {S J : List O} {T TK : Tks} {Q : X → FK}, S.length = n0 → T.length = m0 → fWp E n0 m0 ac fr S J T TK Q → AWp E n0 m0 (erase ac) (sT n0 fr S J T TK) (kX n0 m0 Q)
  | .skip, fr, S, J, T, TK, Q, hn, hm, h => ⟨fr, S, J, T, TK, rfl, hn, hm, h⟩
  | .rg l, fr, S, J, T, TK, Q, hn, hm, h => fops_sound l hn hm h
  | .rd l, fr, S, J, T, TK, Q, hn, hm, h => fqs_sound l hn hm h
  | .seq a b, fr, S, J, T, TK, Q, hn, hm, h => by
    refine AWp.mono (erase a) ?_ (fWp_sound a hn hm h)
    rintro x st ⟨fr, S, J, T, TK, rfl, hn, hm, hk⟩
    cases x with
    | nm => exact ⟨_, Shift.refl _ _ _ _, fWp_sound b hn hm hk⟩
    | ex id => exact ⟨fr, S, J, T, TK, rfl, hn, hm, hk⟩
    | rt => exact ⟨fr, S, J, T, TK, rfl, hn, hm, hk⟩
  | .cut a b, fr, S, J, T, TK, Q, hn, hm, h => by
    obtain ⟨I, R, hA, r1, r2, r3, hB⟩ := h.h
    refine AWp.mono (erase a) ?_ (fWp_sound a hn hm hA)
    rintro x st ⟨fr, S, J, T, TK, rfl, hn, hm, hk⟩
    cases x with
    | nm =>
      obtain ⟨fr', S', J', T', TK', hs, hI⟩ := r1 _ _ _ _ _ hk
      obtain ⟨⟨h1, h2⟩, h3⟩ := hB _ _ _ _ _ hI
      exact ⟨_, hs, fWp_sound b h1 h2 h3⟩
    | ex id => exact ⟨fr, S, J, T, TK, rfl, hn, hm, r2 _ _ _ _ _ _ hk⟩
    | rt => exact ⟨fr, S, J, T, TK, rfl, hn, hm, r3 _ _ _ _ _ hk⟩
  | .cond c a b, fr, S, J, T, TK, Q, hn, hm, h => by
    simp only [fWp] at h
    simp only [erase, AWp, ← fev_to (n := n0) c]
    split at h
    · rename_i he
      simp only [he, FD.to]
      exact ⟨fun _ => fWp_sound a hn hm h, fun e => by cases e⟩
    · rename_i he
      simp only [he, FD.to]
      exact ⟨fun e => by (cases e), fun _ => fWp_sound b hn hm h⟩
    · exact h.elim
  | .block id a, fr, S, J, T, TK, Q, hn, hm, h => by
    refine AWp.mono (erase a) ?_ (fWp_sound a hn hm h)
    rintro x st ⟨fr, S, J, T, TK, rfl, hn, hm, hk⟩
    cases x with
    | nm => exact ⟨fr, S, J, T, TK, rfl, hn, hm, hk⟩
    | ex id' =>
      simp only at hk ⊢
      cases hb : Nat.beq id' id with
      | true => rw [if_pos (Nat.eq_of_beq_eq_true hb)]; simp only [hb] at hk; exact ⟨fr, S, J, T, TK, rfl, hn, hm, hk⟩
      | false => rw [if_neg (Nat.ne_of_beq_eq_false hb)]; simp only [hb] at hk; exact ⟨fr, S, J, T, TK, rfl, hn, hm, hk⟩
    | rt => exact ⟨fr, S, J, T, TK, rfl, hn, hm, hk⟩
  | .loop a, fr, S, J, T, TK, Q, hn, hm, h => by
    obtain ⟨I, n, fr', S', J', T', TK', hs, hI, hstep⟩ := h.h
    refine ⟨fun n st => ∃ fr S J T TK, st = sT n0 fr S J T TK ∧ I n fr S J T TK, n, _, hs, ⟨_, _, _, _, _, rfl, hI⟩, ?_⟩
    rintro n st ⟨fr, S, J, T, TK, rfl, hI⟩
    obtain ⟨⟨hn, hm⟩, R, hw, r1, r2, r3⟩ := hstep n _ _ _ _ _ hI
    refine AWp.mono (erase a) ?_ (fWp_sound a hn hm hw)
    rintro x st ⟨fr, S, J, T, TK, rfl, hn, hm, hk⟩
    cases x with
    | nm =>
      obtain ⟨n', fr', S', J', T', TK', h1, h2, h3⟩ := r1 _ _ _ _ _ hk
      exact ⟨n', _, h1, h2, _, _, _, _, _, rfl, h3⟩
    | ex id => exact ⟨fr, S, J, T, TK, rfl, hn, hm, r2 _ _ _ _ _ _ hk⟩
    | rt => exact ⟨fr, S, J, T, TK, rfl, hn, hm, r3 _ _ _ _ _ hk⟩
  | .exit id, fr, S, J, T, TK, Q, hn, hm, h => ⟨fr, S, J, T, TK, rfl, hn, hm, h⟩
  | .ret, fr, S, J, T, TK, Q, hn, hm, h => ⟨fr, S, J, T, TK, rfl, hn, hm, h⟩
  | .rfn _ _ _ _ _, fr, S, J, T, TK, Q, hn, hm, h => h.h

theorem fRes_e {n0 : Nat} {fr : Fr} {S J : List O} (hn : S.length = n0) : ∀ (res : List (Nat × Option (Nat × Bool))) {K : List D → Prop}, fRes n0 fr J res K → ∃ ds, resD (frD n0 fr) (S ++ J) res = some ds ∧ K ds
  | [], K, h => ⟨[], rfl, h⟩
  | (t, none) :: r, K, h => by
    simp only [fRes, fzT_eq] at h
    obtain ⟨ds, h1, h2⟩ := fRes_e hn r h
    exact ⟨_ :: ds, by simp only [resD, h1, get_frD, Option.map], h2⟩
  | (t, some (n, ag)) :: r, K, h => by
    simp only [fRes] at h
    split at h
    · rename_i k o he
      split at h
      · rename_i cs hj
        obtain ⟨d, h1, h2⟩ := pK_e h
        rw [fzD_eq] at h2
        obtain ⟨ds, h3, h4⟩ := fRes_e hn r h2
        refine ⟨d :: ds, ?_, h4⟩
        have hlk : (S ++ J)[n0 + k]? = J[k]? := hn ▸ lk k
        simp only [resD, get_frD, he, FD.to, hlk, hj, h1, h3]
      · exact h.elim
    · exact h.elim

/-- a function's contract, by a walk with cuts -/
theorem ACalls.fgoC {E : Env} {f : FuncId} {nt : Nat} {res : List (Nat × Option (Nat × Bool))} {code : AC} (hc : cFun E.P f = some ⟨nt, res, code⟩) {ds : List D} (hd : Nat.ble ds.length nt = true) {S : List O} {tk : Tks} {Post : D → List O → Tks → Prop}
    (l : List Nat) (hcut : noCut code = true) (h : OSc S.length tk.length S → fWp E S.length tk.length (cutAt l code) (ffA 0 ds) S [] tk [] (FRet E S.length tk.length res Post)) : ACalls E f ds S tk Post := by
  refine ACalls.intro hc (Nat.le_of_ble_eq_true hd) fun hS => ?_
  have := fWp_sound (cutAt l code) rfl rfl (h hS)
  rw [show erase (cutAt l code) = code from erase_cutN _ _ _ hcut] at this
  simp only [sT, ffA_frD, List.append_nil] at this
  refine AWp.mono code ?_ this
  rintro x st ⟨fr, S', J, T, TK, rfl, hn, hm, hk⟩
  cases x with
  | ex id => exact hk
  | nm =>
    obtain ⟨ds, h1, h2⟩ := fRes_e hn _ hk
    exact ⟨ds, h1, h2.h⟩
  | rt =>
    obtain ⟨ds, h1, h2⟩ := fRes_e hn _ hk
    exact ⟨ds, h1, h2.h⟩

/-- a function's contract, by a walk -/
theorem ACalls.fgo {E : Env} {f : FuncId} {nt : Nat} {res : List (Nat × Option (Nat × Bool))} {code : AC} (hc : cFun E.P f = some ⟨nt, res, code⟩) {ds : List D} (hd : Nat.ble ds.length nt = true) {S : List O} {tk : Tks} {Post : D → List O → Tks → Prop}
    (h : OSc S.length tk.length S → fWp E S.length tk.length code (ffA 0 ds) S [] tk [] (FRet E S.length tk.length res Post)) (hcut : noCut code = true := by rfl) : ACalls E f ds S tk Post := by
  refine ACalls.intro hc (Nat.le_of_ble_eq_true hd) fun hS => ?_
  have := fWp_sound code rfl rfl (h hS)
  rw [erase_id code hcut] at this
  simp only [sT, ffA_frD, List.append_nil] at this
  refine AWp.mono code ?_ this
  rintro x st ⟨fr, S', J, T, TK, rfl, hn, hm, hk⟩
  cases x with
  | ex id => exact hk
  | nm =>
    obtain ⟨ds, h1, h2⟩ := fRes_e hn _ hk
    exact ⟨ds, h1, h2.h⟩
  | rt =>
    obtain ⟨ds, h1, h2⟩ := fRes_e hn _ hk
    exact ⟨ds, h1, h2.h⟩

/-- the arguments mention only what there is -/
theorem ACalls.withSc {E : Env} {f : FuncId} {ds : List D} {S : List O} {tk : Tks} {Post : D → List O → Tks → Prop} (h : scL S.length tk.length ds = true → ACalls E f ds S tk Post) : ACalls E f ds S tk Post := by
  intro B w0 c w vs hr hl
  refine h ?_ B w0 c w vs hr hl
  refine scL_of fun j d hd => ?_
  have hj : j < vs.size := by rw [hl.1]; exact (List.getElem?_eq_some_iff.1 hd).1
  have := (hl.2 j _ d (Array.getElem?_eq_getElem hj) hd).sc
  rwa [hr.s.nS, hr.s.mT] at this

/-! ## rules -/

/-- the end of a walk: all that the call made is forgotten -/
theorem ffin {E : Env} {n0 m0 : Nat} {S J : List O} {T TK : Tks} {d : D} {Post : D → List O → Tks → Prop} (d' : D) (hn : S.length = n0) (hm : T.length = m0) (hS : OSc n0 m0 S) (hs : Sub d d') (hsc : d'.sc n0 m0 = true) (hp : Post d' S T) : FFin E n0 m0 S J T TK d Post :=
  ⟨d', S, T, Shift.drop (by exact ⟨by simpa [KL.get] using hs, trivial⟩) (Nat.le_of_eq hn.symm) (Nat.le_of_eq hm.symm) (by simp [frSc, hn, hm, hsc]) (by rw [hn, hm]; exact hS), hp⟩

/-- a call that answers one thing and changes nothing -/
theorem ck {E : Env} {f : FuncId} {ds : List D} {S J : List O} {T TK : Tks} {n0 m0 : Nat} {K : FD → List O → List O → Tks → Tks → Prop} {d : D} (hn : S.length = n0) (hm : T.length = m0) (h : ∀ S tk, ACalls E f ds S tk (fun r S' tk' => r = d ∧ S' = S ∧ tk' = tk)) (hk : fzD d fun d => K (.d d) S J T TK) : CK E n0 m0 f ds S J T TK K :=
  ⟨(h _ _).mono fun r S' tk' ⟨h1, h2, h3⟩ => ⟨S, J, T, TK, h2, h3, hn, hm, h1 ▸ hk⟩⟩
theorem ckz {E : Env} {f : FuncId} {ds : List D} {S J : List O} {T TK : Tks} {n0 m0 : Nat} {K : FD → List O → List O → Tks → Tks → Prop} {d : D} (h : ∀ S tk, ACalls E f ds S tk (fun r S' tk' => r = d ∧ S' = S ∧ tk' = tk)) (hk : fzD d fun d => K (.d d) S J T TK) (hn : S.length = n0 := by first | rfl | simp) (hm : T.length = m0 := by rfl) : CK E n0 m0 f ds S J T TK K :=
  ck hn hm h hk
theorem cq {E : Env} {f : FuncId} {ds : List D} {S J : List O} {T TK : Tks} {K : D → Prop} {d : D} (h : ∀ S tk, ACalls E f ds S tk (fun r S' tk' => r = d ∧ S' = S ∧ tk' = tk)) (hk : fzD d K) : CQ E f ds S J T TK K :=
  ⟨d, h _ _, hk⟩
theorem xk {E : Env} {f : FuncId} {ds : List D} {K : D → Prop} {d : D} (h : AExt E f ds d) (hk : fzD d K) : XK E f ds K := ⟨d, h, hk⟩

/-- what is known of a frame -/
def FrEq (fr : Fr) : Fr → Prop
  | [] => True
  | (t, d) :: r => fget fr t = d ∧ FrEq fr r

theorem FrEq.le {n : Nat} {fr : Fr} : ∀ {fr' : Fr}, FrEq fr fr' → FrLe (frD n fr) (frD n fr')
  | [], _ => trivial
  | (t, d) :: r, h => ⟨by rw [get_frD, h.1]; exact Sub.refl _, FrEq.le h.2⟩

/-- a round leaves what is kept, in a frame, in the walk's own objects and tokens -/
structure FStep (E : Env) (n0 m0 : Nat) (fr : Fr) (J : List O) (TK : Tks) (fr' : Fr) (J' : List O) (TK' : Tks) : Prop where
  h : ∀ S T, S.length = n0 → T.length = m0 → OSc n0 m0 S → Shift E n0 m0 (sT n0 fr S J T TK) (sT n0 fr' S J' T TK')

theorem fstep_fr {E : Env} {n0 m0 : Nat} {fr : Fr} {J : List O} {TK : Tks} {fr' : Fr} (h : FrEq fr fr') : FStep E n0 m0 fr J TK fr' J TK := ⟨fun S T hn hm hS => Shift.frame h.le⟩

structure FNext (E : Env) (n0 m0 : Nat) {α : Type} (P : α → Prop) (μ : α → Nat) (gf : α → Fr) (gJ : α → List O) (gT : α → Tks) (a : α) (S0 : List O) (T0 : Tks) (fr : Fr) (S J : List O) (T TK : Tks) : Prop where
  h : S = S0 ∧ T = T0 ∧ ∃ a', P a' ∧ μ a' < μ a ∧ FStep E n0 m0 fr J TK (gf a') (gJ a') (gT a')

theorem fnext {E : Env} {n0 m0 : Nat} {α : Type} {P : α → Prop} {μ : α → Nat} {gf : α → Fr} {gJ : α → List O} {gT : α → Tks} {a : α} {S : List O} {T : Tks} {fr : Fr} {J : List O} {TK : Tks} (a' : α) (h1 : P a') (h2 : μ a' < μ a) (h3 : FStep E n0 m0 fr J TK (gf a') (gJ a') (gT a')) : FNext E n0 m0 P μ gf gJ gT a S T fr S J T TK :=
  ⟨rfl, rfl, a', h1, h2, h3⟩

/-- behind a round -/
def FRd (E : Env) (n0 m0 : Nat) {α : Type} (P : α → Prop) (μ : α → Nat) (gf : α → Fr) (gJ : α → List O) (gT : α → Tks) (a : α) (S0 : List O) (T0 : Tks) (Q : X → FK) : X → FK := fun x fr S J T TK => match x with
  | .nm => FNext E n0 m0 P μ gf gJ gT a S0 T0 fr S J T TK
  | .ex id => Q (.ex id) fr S J T TK
  | .rt => Q .rt fr S J T TK

/-- a loop -/
theorem floop {E : Env} {n0 m0 : Nat} {W : Fr → List O → List O → Tks → Tks → (X → FK) → Prop} {fr : Fr} {S J : List O} {T TK : Tks} {Q : X → FK} {α : Type} (hn : S.length = n0) (hm : T.length = m0) (hS : OSc n0 m0 S)
    (P : α → Prop) (μ : α → Nat) (gf : α → Fr) (gJ : α → List O) (gT : α → Tks) (a0 : α) (hP : P a0) (h0 : FStep E n0 m0 fr J TK (gf a0) (gJ a0) (gT a0))
    (hb : ∀ a, P a → W (gf a) S (gJ a) T (gT a) (FRd E n0 m0 P μ gf gJ gT a S T Q)) : FLoop E n0 m0 W fr S J T TK Q := by
  refine ⟨fun n fr S' J T' TK => S' = S ∧ T' = T ∧ ∃ a, P a ∧ μ a = n ∧ fr = gf a ∧ J = gJ a ∧ TK = gT a, μ a0, gf a0, S, gJ a0, T, gT a0, h0.h S T hn hm hS, ⟨rfl, rfl, a0, hP, rfl, rfl, rfl, rfl⟩, ?_⟩
  rintro n fr S' J T' TK ⟨rfl, rfl, a, ha, rfl, rfl, rfl, rfl⟩
  refine ⟨⟨hn, hm⟩, _, hb a ha, fun fr S' J T' TK h => ?_, fun id fr S' J T' TK h => h, fun fr S' J T' TK h => h⟩
  obtain ⟨rfl, rfl, a', h1, h2, h3⟩ := h.h
  exact ⟨μ a', gf a', _, gJ a', _, gT a', h2, h3.h _ _ hn hm hS, rfl, rfl, a', h1, rfl, rfl, rfl, rfl⟩

end Go.KL
