/- Pure: plans by windows, on both sides. -/
import Derived.Test.YtiaohjciddbpoaaKFnExactWindowPlanPgd
set_option linter.unusedVariables false
set_option linter.unusedSimpArgs false
namespace Go.Proofs.Ytiaohjciddbpoaa.Pure
open Go.RowKit Go.Proofs.Ytiaohjciddbpoaa.E Go.Proofs.Ytiaohjciddbpoaa.H1 Go.Proofs.Ytiaohjciddbpoaa.Frame Go.Proofs.YtiaohjciddbpoaaW.PrintLast Go.Proofs.YtiaohjciddbpoaaW.PrintMore
open Go.Proofs.YtiaohjciddbpoaaW.PrintWords hiding mn mx
/-! digits -/
def dgs (b : Nat) : Nat → Nat → List Int
  | 0, _ => []
  | f + 1, y => if y = 0 then [] else ((y % b : Nat) : Int) :: dgs b f (y / b)
theorem dgs_len (b : Nat) (f y : Nat) : (dgs b f y).length ≤ f := by
  induction f generalizing y with
  | zero => exact Nat.le_refl _
  | succ f ih =>
    simp only [dgs]
    split
    · simp
    · simpa using ih (y / b)
theorem dgs_in {b : Nat} (hb : 1 ≤ b) (f y : Nat) : ∀ x ∈ dgs b f y, 0 ≤ x ∧ x < (b : Int) := by
  induction f generalizing y with
  | zero => exact fun x hx => nomatch hx
  | succ f ih =>
    intro x hx
    simp only [dgs] at hx
    split at hx
    · exact nomatch hx
    · rcases List.mem_cons.1 hx with rfl | hx
      · have := Nat.mod_lt y (show 0 < b by omega)
        omega
      · exact ih _ x hx
theorem dgs_last {b : Nat} (hb : 2 ≤ b) (f y : Nat) (h0 : 0 < y) (hy : y < b ^ f) : ∃ R z, dgs b f y = R ++ [z] ∧ 1 ≤ z := by
  induction f generalizing y with
  | zero => simp at hy; omega
  | succ f ih =>
    simp only [dgs]
    rw [if_neg (by omega)]
    by_cases c : y / b = 0
    · refine ⟨[], ((y % b : Nat) : Int), ?_, ?_⟩
      · rw [c]
        cases f <;> simp [dgs]
      · have : y < b := by
          rcases Nat.div_eq_zero_iff.1 c with h | h
          · omega
          · exact h
        rw [Nat.mod_eq_of_lt this]
        omega
    · obtain ⟨R, z, e, hz⟩ := ih (y / b) (Nat.pos_of_ne_zero c) (Nat.div_lt_of_lt_mul (by rw [Nat.pow_succ] at hy; rwa [Nat.mul_comm]))
      exact ⟨((y % b : Nat) : Int) :: R, z, by rw [e]; rfl, hz⟩
theorem dgs_spec (b : Nat) (hb : 2 ≤ b) : ∀ (f y : Nat) (pre : List Int), y < b ^ f → y < 2 ^ 62 → pre.length + f ≤ 1000 → Ev (fun k => spec_meDigits.l0 (b : Int) k pre (y : Int)) (pre ++ dgs b f y) := by
  intro f
  induction f with
  | zero =>
    intro y pre h hy hp
    obtain rfl : y = 0 := by simpa using h
    refine shift ?_
    simp only [spec_meDigits.l0, dgs, List.append_nil]
    exact neg (by simp) (ret _)
  | succ f ih =>
    intro y pre h hy hp
    refine shift ?_
    simp only [spec_meDigits.l0, dgs]
    by_cases c : y = 0
    · subst c
      rw [if_pos rfl, List.append_nil]
      exact neg (by simp) (ret _)
    · rw [if_neg c]
      have hd : y / b < y := Nat.div_lt_self (by omega) (by omega)
      have hn := Int.natCast_nonneg (y / b)
      have h2 := ih (y / b) (pre ++ [((y % b : Nat) : Int)]) (Nat.div_lt_of_lt_mul (by rw [Nat.pow_succ] at h; rwa [Nat.mul_comm])) (by omega) (by simp; omega)
      have hz : nz (b : Int) = some () := by
        unfold nz
        rw [if_neg (by omega)]
      rw [show Int.tdiv (y : Int) (b : Int) = ((y / b : Nat) : Int) from rfl, show Int.tmod (y : Int) (b : Int) = ((y % b : Nat) : Int) from rfl, w64_id (by omega)]
      refine pos (by omega) (bind0 hz (bind0 (ap_ok (by simp; omega)) (bind0 hz ?_)))
      simpa using h2
theorem dgs_impl (b : Nat) (hb : 2 ≤ b) : ∀ (f y : Nat) (pre : List Int), y < b ^ f → y < 2 ^ 62 → pre.length + f ≤ 1000 → Ev (fun k => impl_digits.l0 (b : Int) k pre (y : Int)) (pre ++ dgs b f y) := by
  intro f
  induction f with
  | zero =>
    intro y pre h hy hp
    obtain rfl : y = 0 := by simpa using h
    refine shift ?_
    simp only [impl_digits.l0, dgs, List.append_nil]
    exact neg (by simp) (ret _)
  | succ f ih =>
    intro y pre h hy hp
    refine shift ?_
    simp only [impl_digits.l0, dgs]
    by_cases c : y = 0
    · subst c
      rw [if_pos rfl, List.append_nil]
      exact neg (by simp) (ret _)
    · rw [if_neg c]
      have hd : y / b < y := Nat.div_lt_self (by omega) (by omega)
      have hn := Int.natCast_nonneg (y / b)
      have h2 := ih (y / b) (pre ++ [((y % b : Nat) : Int)]) (Nat.div_lt_of_lt_mul (by rw [Nat.pow_succ] at h; rwa [Nat.mul_comm])) (by omega) (by simp; omega)
      have hz : nz (b : Int) = some () := by
        unfold nz
        rw [if_neg (by omega)]
      rw [show Int.tdiv (y : Int) (b : Int) = ((y / b : Nat) : Int) from rfl, show Int.tmod (y : Int) (b : Int) = ((y % b : Nat) : Int) from rfl, w64_id (by omega)]
      refine pos (by omega) (bind0 hz (bind0 (ap_ok (by simp; omega)) (bind0 hz ?_)))
      simpa using h2
/-! a maker's steps -/
def mulS (p : List SStep × Int) (b : Int) : List SStep × Int := (p.1 ++ [⟨mn p.2 b, mx p.2 b⟩], 1 + (p.1.length : Int))
theorem mul_impl (l : List SStep) (a b : Int) (hl : l.length ≤ 100000) : impl_maker_multiply.f 1 l [] a b = some ((mulS (l, a) b).2, (mulS (l, a) b).1) := by
  unfold impl_maker_multiply.f impl_step.f impl_Plan_many_2.f
  rw [Option.bind_some, ap_ok (by simp; omega)]
  simp only [Option.bind_some]
  rw [List.length_append, List.length_singleton, w64_id (x := 1 + ((l.length + 1 : Nat) : Int)) (by omega), w64_id (by omega)]
  show some (1 + ((l.length + 1 : Nat) : Int) - 1, _) = some (1 + (l.length : Int), _)
  congr 2
  omega
def sqn : Nat → List SStep × Int → List SStep × Int
  | 0, p => p
  | n + 1, p => sqn n (mulS p p.2)
def wr (n : Nat) (p : List SStep × Int) (d : Int) : List SStep × Int := if 0 < d then mulS (sqn n p) (d - 1) else sqn n p
theorem mulS_len (p : List SStep × Int) (b : Int) : (mulS p b).1.length = p.1.length + 1 := by simp [mulS]
theorem sqn_len (n : Nat) (p : List SStep × Int) : (sqn n p).1.length = p.1.length + n := by
  induction n generalizing p with
  | zero => rfl
  | succ n ih => rw [sqn, ih, mulS_len]; omega
theorem wr_len (n : Nat) (p : List SStep × Int) (d : Int) : (wr n p d).1.length ≤ p.1.length + (n + 1) := by
  have := sqn_len n p
  unfold wr
  split
  · rw [mulS_len]; omega
  · omega
theorem sqn_impl (n : Nat) (l : List SStep) (a j : Int) (h : l.length + n ≤ 100000) : impl_maker_squared.l0 1 [] n l a j = some (sqn n (l, a)) := by
  induction n generalizing l a j with
  | zero => rfl
  | succ n ih =>
    simp only [impl_maker_squared.l0, sqn]
    rw [mul_impl _ _ _ (by omega)]
    simp only [Option.bind_some]
    exact ih _ _ _ (by rw [mulS_len]; show l.length + 1 + n ≤ _; omega)
theorem sqn_spec (n : Nat) : ∀ (d j : Nat) (l : List SStep) (a : Int), j + d = n → n ≤ 1000 → l.length + d ≤ 10000 → Ev (fun k => spec_meWindow.l2 (n : Int) k l [] (j : Int) a) ((sqn d (l, a)).1, [], (sqn d (l, a)).2) := by
  intro d
  induction d with
  | zero =>
    intro j l a hj hn hl
    refine shift ?_
    simp only [spec_meWindow.l2]
    exact neg (by omega) (ret _)
  | succ d ih =>
    intro j l a hj hn hl
    refine shift ?_
    simp only [spec_meWindow.l2, sqn]
    refine pos (by omega) (bind0 (meTimes_eq 1 l [] a a (by omega)) ?_)
    rw [w64_succ (by omega), w64_id (x := 1 + (l.length : Int)) (by omega)]
    exact ih (j + 1) _ _ (by omega) hn (by simp; omega)
/-! the powers -/
def pwS (t : Nat) : List SStep := (List.range t).map fun (j : Nat) => (⟨0, (j : Int)⟩ : SStep)
def pwL (t : Nat) : List Int := (List.range (t + 2)).map fun (j : Nat) => (j : Int) - 1
theorem pwS_len (t : Nat) : (pwS t).length = t := by simp [pwS]
theorem pwL_len (t : Nat) : (pwL t).length = t + 2 := by simp [pwL]
theorem pwS_succ (t : Nat) : pwS t ++ [⟨mn (t : Int) 0, mx (t : Int) 0⟩] = pwS (t + 1) := by
  have h1 : mn (t : Int) 0 = 0 := by unfold mn; split <;> omega
  have h2 : mx (t : Int) 0 = (t : Int) := by unfold mx; split <;> omega
  unfold pwS
  rw [List.range_succ, List.map_append, h1, h2]
  simp
theorem pwL_gt (t j : Nat) (h : j < t + 2) : gt (pwL t) (j : Int) = some ((j : Int) - 1) := by
  rw [gt_nat (by rw [pwL_len]; exact h)]
  simp [pwL]
theorem pwL_succ (t : Nat) : pwL t ++ [((t : Int) + 1)] = pwL (t + 1) := by
  unfold pwL
  rw [show t + 1 + 2 = (t + 2) + 1 by omega, List.range_succ (n := t + 2), List.map_append]
  simp only [List.map_cons, List.map_nil]
  congr 2
  omega
theorem pw_impl (D : List Int) (M : Int) (T : Nat) (hm : Ev (fun k => slices_Max_int_int.f k D) M) (h1 : M ≤ (T : Int) + 1) (h2 : 1 ≤ T → M = (T : Int) + 1) (hT : T ≤ 1000) : ∀ (d t c : Nat), t + d = T → Ev (fun k => impl_WindowPlan.l0 (k + c) D k (pwS t) (pwL t)) (pwS T, pwL T) := by
  intro d
  induction d with
  | zero =>
    intro t c ht
    obtain rfl : t = T := by omega
    have e : ∀ k, k + 1 + c = k + (c + 1) := by omega
    refine shift ?_
    simp only [impl_WindowPlan.l0, e]
    exact bind (upK (c + 1) hm) (neg (by rw [pwL_len]; omega) (ret _))
  | succ d ih =>
    intro t c ht
    have e : ∀ k, k + 1 + c = k + (c + 1) := by omega
    have hM := h2 (by omega)
    have g1 : gt (pwL t) (w64 (((pwL t).length : Int) - 1)) = some (t : Int) := by
      rw [pwL_len, w64_id (by omega), show ((t + 2 : Nat) : Int) - 1 = ((t + 1 : Nat) : Int) by omega, pwL_gt t (t + 1) (by omega)]
      congr 1
      omega
    have g2 := mul_impl (pwS t) (t : Int) 0 (by rw [pwS_len]; omega)
    have g3 : mulS (pwS t, (t : Int)) 0 = (pwS (t + 1), (t : Int) + 1) := by
      unfold mulS
      rw [pwS_succ, pwS_len]
      congr 1
      omega
    rw [g3] at g2
    have h := ih (t + 1) (c + 1) (by omega)
    refine shift ?_
    simp only [impl_WindowPlan.l0, e]
    refine bind (upK (c + 1) hm) (pos (by rw [pwL_len]; omega) (bind0 g1 (bind0 g2 (bind0 (ap_ok (by rw [pwL_len]; simp; omega)) ?_))))
    rw [pwL_succ]
    exact h
theorem pw_spec (D : List Int) (M : Int) (T : Nat) (hm : spec_meGreatest.f D = some M) (h1 : M ≤ (T : Int) + 1) (h2 : 1 ≤ T → M = (T : Int) + 1) (hT : T ≤ 1000) : ∀ (d t : Nat), t + d = T → Ev (fun k => spec_meWindow.l0 D k (pwS t) [] (t : Int) ((t + 2 : Nat) : Int)) (pwS T, []) := by
  intro d
  induction d with
  | zero =>
    intro t ht
    obtain rfl : t = T := by omega
    refine shift ?_
    simp only [spec_meWindow.l0]
    exact bind0 hm (neg (by omega) (ret _))
  | succ d ih =>
    intro t ht
    have hM := h2 (by omega)
    have h := ih (t + 1) (by omega)
    refine shift ?_
    simp only [spec_meWindow.l0]
    refine bind0 hm (pos (by omega) (bind0 (meTimes_eq 1 _ _ _ _ (by rw [pwS_len]; omega)) ?_))
    rw [pwS_succ, pwS_len, w64_id (x := 1 + (t : Int)) (by omega), w64_id (by omega), show 1 + (t : Int) = ((t + 1 : Nat) : Int) by omega, show ((t + 2 : Nat) : Int) + 1 = ((t + 1 + 2 : Nat) : Int) by omega]
    exact h
/-! the rounds -/
theorem rounds_spec (n : Nat) (hn : n ≤ 100) (R : List Int) (z : Int) (hR : R.length ≤ 1000) (hx : ∀ x ∈ R, 0 ≤ x ∧ x ≤ 1000) : ∀ (m c : Nat) (l : List SStep) (a : Int), m ≤ R.length → l.length + (n + 1) * m ≤ 10000 → Ev (fun k => spec_meWindow.l1 (k + c) (n : Int) (R ++ [z]) k l [] a ((m : Int) - 1)) (((R.take m).reverse.foldl (wr n) (l, a)).1, [], ((R.take m).reverse.foldl (wr n) (l, a)).2) := by
  intro m
  induction m with
  | zero =>
    intro c l a hm hl
    refine shift ?_
    simp only [spec_meWindow.l1]
    exact neg (by omega) (ret _)
  | succ m ih =>
    intro c l a hm hl
    have e : ∀ k, k + 1 + c = k + (c + 1) := by omega
    rw [Nat.mul_succ] at hl
    have hml : m < R.length := by omega
    have e1 : (R.take (m + 1)).reverse = R[m] :: (R.take m).reverse := by
      rw [List.take_add_one, List.getElem?_eq_getElem hml]
      simp
    have g1 := sqn_spec n n 0 l a (by omega) (by omega) (by omega)
    have hs : (sqn n (l, a)).1.length = l.length + n := sqn_len n (l, a)
    have hg : gt (R ++ [z]) (m : Int) = some R[m] := by
      rw [gt_nat (by simp; omega), List.getElem_append_left hml]
    have hxm := hx _ (List.getElem_mem hml)
    rw [e1, List.foldl_cons]
    have ei : ((m + 1 : Nat) : Int) - 1 = (m : Int) := by omega
    refine shift ?_
    simp only [spec_meWindow.l1, e, ei]
    refine pos (by omega) (bind (upK (c + 1) g1) (bind0 hg ?_))
    rw [w64_id (x := (m : Int) - 1) (by omega)]
    have hw : (wr n (l, a) R[m]).1.length ≤ l.length + (n + 1) := wr_len n (l, a) R[m]
    by_cases c1 : 0 < R[m]
    · have hwr : wr n (l, a) R[m] = mulS (sqn n (l, a)) (R[m] - 1) := by unfold wr; rw [if_pos c1]
      rw [hwr] at hw ⊢
      refine pos c1 (bind0 hg ?_)
      rw [w64_id (x := R[m] - 1) (by omega), w64_id (x := 1 + ((sqn n (l, a)).1.length : Int)) (by omega)]
      refine bind0 (meTimes_eq 1 _ [] _ _ (by show (sqn n (l, a)).1.length ≤ _; omega)) ?_
      exact ih (c + 1) (mulS (sqn n (l, a)) (R[m] - 1)).1 (mulS (sqn n (l, a)) (R[m] - 1)).2 (by omega) (by omega)
    · have hwr : wr n (l, a) R[m] = sqn n (l, a) := by unfold wr; rw [if_neg c1]
      rw [hwr]
      exact neg c1 (ih (c + 1) (sqn n (l, a)).1 (sqn n (l, a)).2 (by omega) (by omega))
theorem okB_inv {β σ : Type} {f : β → σ → Option σ} {xs : List β} (P : Nat → σ → Prop) (h : ∀ j s x, x ∈ xs → P (j + 1) s → ∃ s', f x s = some s' ∧ P j s') : ∀ n s, P n s → okB f xs n s = true := by
  intro n
  induction n with
  | zero => exact fun _ _ => rfl
  | succ n ih =>
    intro s hs
    unfold okB
    refine List.all_eq_true.2 fun x hx => ?_
    obtain ⟨s', e, hp⟩ := h n s x hx hs
    rw [e]
    exact ih s' hp
theorem foldl_inv {β σ : Type} {f g : σ → β → σ} (P : Nat → σ → Prop) : ∀ (xs : List β) (s : σ), (∀ j s x, x ∈ xs → P (j + 1) s → f s x = g s x ∧ P j (g s x)) → P xs.length s → xs.foldl f s = xs.foldl g s
  | [], _, _, _ => rfl
  | x :: xs, s, h, hs => by
    obtain ⟨e, hp⟩ := h xs.length s x List.mem_cons_self hs
    rw [List.foldl_cons, List.foldl_cons, e]
    exact foldl_inv P xs _ (fun j s y hy => h j s y (List.mem_cons_of_mem _ hy)) hp
theorem bwL_mem {α : Type} {zs : List α} {x : Int × α} (h : x ∈ bwL zs) : x.2 ∈ zs := by
  unfold bwL at h
  obtain ⟨p, hp, e⟩ := List.mem_map.1 (List.mem_reverse.1 h)
  rw [← e]
  exact (List.mem_zipIdx' (x := p.1) (i := p.2) hp).2 ▸ List.getElem_mem _
theorem bwL_snd {α : Type} (zs : List α) : (bwL zs).map (·.2) = zs.reverse := by
  unfold bwL
  rw [List.map_reverse, List.map_map]
  congr 1
  have : ((fun x : Int × α => x.2) ∘ fun p : α × Nat => ((p.2 : Int), p.1)) = Prod.fst := rfl
  rw [this, List.zipIdx_map_fst]
theorem bwL_len {α : Type} (zs : List α) : (bwL zs).length = zs.length := by simp [bwL]
theorem round_impl (n T : Nat) (hn : n ≤ 100) (i x : Int) (hx : x < (T : Int) + 2) (l : List SStep) (a : Int) (hl : l.length + (n + 1) ≤ 10000) : impl_WindowPlan.r1 (n : Int) (pwL T) (i, x) (l, a) = some (wr n (l, a) x) := by
  have hs : (sqn n (l, a)).1.length = l.length + n := sqn_len n (l, a)
  have hsq : impl_maker_squared.f 1 l [] a (n : Int) = some ((sqn n (l, a)).2, (sqn n (l, a)).1) := by
    unfold impl_maker_squared.f bd
    rw [if_pos (by omega), Option.bind_some, Int.toNat_natCast, sqn_impl n l a 0 (by omega)]
    rfl
  unfold impl_WindowPlan.r1 wr
  simp only
  rw [hsq]
  simp only [Option.bind_some]
  by_cases c : 0 < x
  · rw [if_pos c, if_pos c]
    obtain ⟨d, rfl⟩ := Int.eq_ofNat_of_zero_le (show 0 ≤ x by omega)
    rw [pwL_gt T d (by omega), Option.bind_some, mul_impl _ _ _ (by omega)]
    rfl
  · rw [if_neg c, if_neg c]
theorem rounds_impl (n T : Nat) (hn : n ≤ 100) (R : List Int) (hR : R.length ≤ 1000) (hx : ∀ x ∈ R, x < (T : Int) + 2) (l : List SStep) (a : Int) (hl : l.length + (n + 1) * R.length ≤ 9000) : rngB R (impl_WindowPlan.r1 (n : Int) (pwL T)) (l, a) = some (R.reverse.foldl (wr n) (l, a)) := by
  have hP : ∀ (j : Nat) (s : List SStep × Int) (x : Int × Int), x ∈ bwL R → s.1.length + (n + 1) * (j + 1) ≤ 9000 → impl_WindowPlan.r1 (n : Int) (pwL T) x s = some (wr n s x.2) ∧ (wr n s x.2).1.length + (n + 1) * j ≤ 9000 := by
    rintro j ⟨l, a⟩ ⟨i, x⟩ hxm hs
    have hw := wr_len n (l, a) x
    rw [Nat.mul_succ] at hs
    simp only at hs hw ⊢
    exact ⟨round_impl n T hn i x (hx _ (bwL_mem hxm)) l a (by omega), by omega⟩
  unfold rngB
  rw [if_pos]
  · rw [foldl_inv (f := stB (impl_WindowPlan.r1 (n : Int) (pwL T))) (g := fun s (x : Int × Int) => wr n s x.2) (fun j s => s.1.length + (n + 1) * j ≤ 9000) (bwL R) (l, a) (fun j s x hxm hs => by
      obtain ⟨e, h⟩ := hP j s x hxm hs
      refine ⟨?_, h⟩
      unfold stB
      rw [e]
      rfl) (by rw [bwL_len]; exact hl), ← bwL_snd, List.foldl_map]
  · exact okB_inv (fun j s => s.1.length + (n + 1) * j ≤ 9000) (fun j s x hxm hs => ⟨_, hP j s x hxm hs⟩) R.length (l, a) hl
/-! what a maker makes may be trimmed -/
def Mk (T : Nat) (p : List SStep × Int) : Prop := Ok 1 p.1 ∧ T ≤ p.1.length ∧ 0 ≤ p.2 ∧ p.2 ≤ (p.1.length : Int)
theorem Mk.mul {T : Nat} {p : List SStep × Int} (h : Mk T p) {b : Int} (hb : 0 ≤ b ∧ b ≤ (p.1.length : Int)) : Mk T (mulS p b) := by
  obtain ⟨h1, h2, h3, h4⟩ := h
  have hl := mulS_len p b
  refine ⟨Ok.append.2 ⟨h1, ?_, trivial⟩, by omega, by show 0 ≤ 1 + (p.1.length : Int); omega, by show 1 + (p.1.length : Int) ≤ _; omega⟩
  show 0 ≤ mn p.2 b ∧ mn p.2 b ≤ mx p.2 b ∧ mx p.2 b < _
  unfold mn mx
  split <;> split <;> omega
theorem Mk.sq {T : Nat} {p : List SStep × Int} (h : Mk T p) (n : Nat) : Mk T (sqn n p) := by
  induction n generalizing p with
  | zero => exact h
  | succ n ih => exact ih (h.mul ⟨h.2.2.1, h.2.2.2⟩)
theorem Mk.wr {T : Nat} {p : List SStep × Int} (h : Mk T p) (n : Nat) {d : Int} (hd : d ≤ (T : Int) + 1) : Mk T (wr n p d) := by
  have hs := h.sq n
  unfold Pure.wr
  split
  · exact hs.mul ⟨by omega, by have := hs.2.1; omega⟩
  · exact hs
theorem Mk.all {T : Nat} (n : Nat) (xs : List Int) (hx : ∀ x ∈ xs, x ≤ (T : Int) + 1) {p : List SStep × Int} (h : Mk T p) : Mk T (xs.foldl (Pure.wr n) p) ∧ (xs.foldl (Pure.wr n) p).1.length ≤ p.1.length + (n + 1) * xs.length := by
  induction xs generalizing p with
  | nil => exact ⟨h, by simp⟩
  | cons x xs ih =>
    obtain ⟨h1, h2⟩ := ih (fun y hy => hx y (List.mem_cons_of_mem _ hy)) (h.wr n (hx x List.mem_cons_self))
    have := wr_len n p x
    refine ⟨h1, ?_⟩
    rw [List.length_cons, Nat.mul_succ]
    rw [List.foldl_cons]
    omega
theorem pwS_ok (T : Nat) : Ok 1 (pwS T) := by
  induction T with
  | zero => trivial
  | succ T ih =>
    rw [← pwS_succ]
    refine Ok.append.2 ⟨ih, ?_, trivial⟩
    rw [pwS_len]
    show 0 ≤ mn (T : Int) 0 ∧ mn (T : Int) 0 ≤ mx (T : Int) 0 ∧ mx (T : Int) 0 < _
    unfold mn mx
    split <;> split <;> omega
/-! both plans -/
theorem wide_ok (n : Nat) (h : 1 ≤ n ∧ n ≤ 5) : IntKind.i64.wrap (1 * 2 ^ min ((n : Nat) : Int).toNat IntKind.i64.bits) = ((2 ^ n : Nat) : Int) ∧ ∃ L, 1000000 < (2 ^ n) ^ L ∧ L ≤ 20 ∧ 2 ^ n + n * L + L ≤ 100 := by
  obtain ⟨h1, h2⟩ := h
  obtain rfl | rfl | rfl | rfl | rfl : n = 1 ∨ n = 2 ∨ n = 3 ∨ n = 4 ∨ n = 5 := by omega
  · exact ⟨by decide, 20, by decide, by decide, by decide⟩
  · exact ⟨by decide, 10, by decide, by decide, by decide⟩
  · exact ⟨by decide, 7, by decide, by decide, by decide⟩
  · exact ⟨by decide, 5, by decide, by decide, by decide⟩
  · exact ⟨by decide, 4, by decide, by decide, by decide⟩
theorem window_both (a0 a1 : Int) : ∃ n s o b, Ev (fun k => impl_WindowPlan.f k a0 a1) (n, s, o, b) ∧ Ev (fun k => spec_WindowPlan.f k a0 a1) (n, s, o, b) ∧ s.length ≤ 10000 ∧ o.length ≤ 1000 := by
  unfold spec_WindowPlan.f impl_WindowPlan.f impl_windowOk.f impl_isNumber.f spec_chNumber.f spec_meWide.f
  rw [l1In_eq, in_eq, l1In_eq, in_eq]
  simp only [Option.bind_some]
  by_cases h0 : 1 ≤ a0 ∧ a0 ≤ 1000000
  · by_cases h1 : 1 ≤ a1 ∧ a1 ≤ 5
    · rw [decide_eq_true h0, decide_eq_true h1]
      obtain ⟨x, rfl⟩ := Int.eq_ofNat_of_zero_le (show 0 ≤ a0 by omega)
      obtain ⟨n, rfl⟩ := Int.eq_ofNat_of_zero_le (show 0 ≤ a1 by omega)
      obtain ⟨hw, L, hL1, hL2, hL3⟩ := wide_ok n (by omega)
      have hb : 2 ≤ 2 ^ n := by
        have : 2 ^ 1 ≤ 2 ^ n := Nat.pow_le_pow_right (by omega) (by omega)
        simpa using this
      have hxL : x < (2 ^ n) ^ L := by omega
      have d1 := dgs_spec (2 ^ n) hb L x [] hxL (by omega) (by simp; omega)
      have d2 := dgs_impl (2 ^ n) hb L x [] hxL (by omega) (by simp; omega)
      rw [List.nil_append] at d1 d2
      have dl := dgs_len (2 ^ n) L x
      have di := dgs_in (b := 2 ^ n) (by omega) L x
      obtain ⟨R, z, hD, hz⟩ := dgs_last hb L x (by omega) hxL
      rw [hD] at d1 d2 dl di
      rw [List.length_append, List.length_singleton] at dl
      obtain ⟨hM0, hge⟩ := fmx_ge (R ++ [z]) 0
      have hle := fmx_le (c := ((2 ^ n : Nat) : Int) - 1) (R ++ [z]) 0 (by omega) (fun y hy => by have := (di y hy).2; omega)
      have hg := great_eq (R ++ [z])
      have hm := smax_ev (R ++ [z]) (by simp; omega) (fun y hy => (di y hy).1)
      obtain ⟨M, hM⟩ : ∃ M, (R ++ [z]).foldl mx 0 = M := ⟨_, rfl⟩
      rw [hM] at hM0 hge hle hg hm
      have hM1 : 1 ≤ M := by have := hge z (by simp); omega
      obtain ⟨T, hT⟩ : ∃ T : Nat, M = (T : Int) + 1 := ⟨(M - 1).toNat, by omega⟩
      have hTb : T ≤ 100 := by omega
      have p1 := pw_impl (R ++ [z]) M T hm (by omega) (fun _ => hT) (by omega) T 0 0 (by omega)
      have p2 := pw_spec (R ++ [z]) M T hg (by omega) (fun _ => hT) (by omega) T 0 (by omega)
      have hxR : ∀ y ∈ R, 0 ≤ y ∧ y ≤ (T : Int) + 1 := fun y hy => ⟨(di y (by simp [hy])).1, by have := hge y (by simp [hy]); omega⟩
      have hzT : z ≤ (T : Int) + 1 := by have := hge z (by simp); omega
      have hmul : (n + 1) * R.length ≤ 100 := by
        have : (n + 1) * R.length ≤ (n + 1) * L := Nat.mul_le_mul_left _ (by omega)
        have e : (n + 1) * L = n * L + L := by rw [Nat.add_mul, Nat.one_mul]
        omega
      have r1 := rounds_impl n T (by omega) R (by omega) (fun y hy => by have := (hxR y hy).2; omega) (pwS T) (z - 1) (by rw [pwS_len]; omega)
      have r2 := rounds_spec n (by omega) R z (by omega) (fun y hy => by have := hxR y hy; omega) R.length 0 (pwS T) (z - 1) (Nat.le_refl _) (by rw [pwS_len]; omega)
      rw [List.take_length] at r2
      have hMk : Mk T (pwS T, z - 1) := ⟨pwS_ok T, by show T ≤ (pwS T).length; rw [pwS_len]; exact Nat.le_refl _, by show 0 ≤ z - 1; omega, by show z - 1 ≤ ((pwS T).length : Int); rw [pwS_len]; omega⟩
      obtain ⟨hk, hkl⟩ := Mk.all n R.reverse (fun y hy => (hxR y (List.mem_reverse.1 hy)).2) hMk
      obtain ⟨S, hS⟩ : ∃ S, R.reverse.foldl (wr n) (pwS T, z - 1) = S := ⟨_, rfl⟩
      rw [hS] at r1 r2 hk hkl
      obtain ⟨l, v⟩ := S
      have hlb : l.length ≤ 200 := by
        have : l.length ≤ (pwS T).length + (n + 1) * R.reverse.length := hkl
        rw [pwS_len, List.length_reverse] at this
        omega
      obtain ⟨k1, k2, k3, k4⟩ := hk
      have hgd : Gd 1 l [v] := ⟨by omega, hlb, by simp, k1, fun y hy => by
        rw [List.mem_singleton.1 hy]
        simp only at k3 k4
        omega⟩
      have t1 := trimmed_eqW hgd
      have t2 := plUsed_evW hgd
      have t3 := plKeep_eqW hgd
      have c1 := plIf_ev 1 (kS 1 l [v]) (kO 1 l [v])
      have c2 := told_ev 1 (kS 1 l [v]) (kO 1 l [v])
      obtain ⟨r, hr⟩ : ∃ r, toldP 1 (kS 1 l [v]) (kO 1 l [v]) = r := ⟨_, rfl⟩
      have hrl : r.2.1.length ≤ 10000 ∧ r.2.2.1.length ≤ 1000 := by
        rw [← hr]
        unfold toldP
        have := kS_len 1 l [v]
        split
        · show (kS 1 l [v]).length ≤ _ ∧ (kO 1 l [v]).length ≤ _
          unfold kO
          rw [List.length_map]
          simp
          omega
        · simp
      rw [hr] at c1 c2
      obtain ⟨q1, q2, q3, b⟩ := r
      have hnn : nn ((n : Nat) : Int) = some () := by
        unfold nn
        rw [if_pos (by omega)]
      have hlast : gt (R ++ [z]) (w64 (((R ++ [z]).length : Int) - 1)) = some z := by
        rw [List.length_append, List.length_singleton, w64_id (by omega), show ((R.length + 1 : Nat) : Int) - 1 = (R.length : Int) by omega, gt_nat (by simp)]
        simp
      have hct : ct (R ++ [z]) (0 : Int) (w64 (((R ++ [z]).length : Int) - 1)) = some R := by
        rw [List.length_append, List.length_singleton, w64_id (by omega), show ((R.length + 1 : Nat) : Int) - 1 = (R.length : Int) by omega, ct_take _ _ (by simp)]
        simp
      have hpz : gt (pwL T) z = some (z - 1) := by
        obtain ⟨u, rfl⟩ := Int.eq_ofNat_of_zero_le (show 0 ≤ z by omega)
        exact pwL_gt T u (by omega)
      rw [hw]
      refine ⟨q1, q2, q3, b, ?_, ?_, hrl.1, hrl.2⟩
      · refine bind0 rfl (pos rfl (bind (a := R ++ [z]) ?_ (bind p1 (bind0 hlast (bind0 hpz (bind0 hct (bind0 rfl (bind0 r1 (bind0 rfl (bind0 t1 (bind c2 (ret _))))))))))))
        refine bind0 rfl (bind0 hnn (bind (a := R ++ [z]) ?_ (ret _)))
        unfold impl_digits.f
        exact bind d2 (ret _)
      · refine bind0 rfl (neg (by simp) (bind (a := (kS 1 l [v], kO 1 l [v])) ?_ (bind c1 (ret _))))
        unfold spec_meWindow.f spec_meTrim.f
        rw [hw]
        refine bind0 hnn (bind (a := R ++ [z]) ?_ (bind p2 (bind0 hlast (bind (a := (l, [], v)) ?_ (bind0 rfl (bind (a := (kS 1 l [v], kO 1 l [v])) (bind t2 (bind0 t3 (ret _))) (ret _)))))))
        · unfold spec_meDigits.f
          exact bind d1 (ret _)
        · rw [w64_id (x := z - 1) (by omega), List.length_append, List.length_singleton, w64_id (by omega), show ((R.length + 1 : Nat) : Int) - 2 = (R.length : Int) - 1 by omega]
          exact r2
    · rw [decide_eq_true h0, decide_eq_false h1]
      exact ⟨0, [], [], false, bind0 rfl (neg (by simp) (ret _)), bind0 rfl (pos rfl (ret _)), by simp, by simp⟩
  · rw [decide_eq_false h0]
    exact ⟨0, [], [], false, bind0 rfl (neg (by simp) (ret _)), bind0 rfl (pos rfl (ret _)), by simp, by simp⟩
end Go.Proofs.Ytiaohjciddbpoaa.Pure
