/- Pure: Pperm, Pperm2, Ppwlaw. -/
import Derived.Test.YtobaolbilllfgaaKFnRunsOfPermutationsPrc
import Derived.Test.YtobaolbilllfgaaKFnRunsOfPermutationsPrb
set_option linter.unusedVariables false
set_option linter.unusedSimpArgs false
namespace Go.Proofs.Ytobaolbilllfgaa.Pure
open Go.RowKit Go.Proofs.Ytobaolbilllfgaa.E Go.Proofs.Ytobaolbilllfgaa.RP Go.Proofs.Ytobaolbilllfgaa.Hand Go.Proofs.Ytobaolbilllfgaa.Frame Go.Proofs.YtobaolbilllfgaaW.PrintLast Go.Proofs.YtobaolbilllfgaaW.PrintMore
open Go.Proofs.YtobaolbilllfgaaW.PrintWords hiding mn mx
/-! products -/
def th (a b : List Int) : List Int := a.map (rg b)
theorem rg_map {f : Int → Int} {l : List Int} {v : Int} (h0 : 0 ≤ v) (h1 : v < (l.length : Int)) : rg (l.map f) v = f (rg l v) := by
  obtain ⟨j, rfl⟩ := Int.eq_ofNat_of_zero_le h0
  rw [rg_nat (by rw [List.length_map]; omega), rg_nat (by omega), List.getElem_map]
theorem rg_inj {l : List Int} (h : l.Nodup) {u v : Int} (hu : 0 ≤ u ∧ u < (l.length : Int)) (hv : 0 ≤ v ∧ v < (l.length : Int)) (e : rg l u = rg l v) : u = v := by
  obtain ⟨i, rfl⟩ := Int.eq_ofNat_of_zero_le hu.1
  obtain ⟨j, rfl⟩ := Int.eq_ofNat_of_zero_le hv.1
  rw [rg_nat (by omega), rg_nat (by omega)] at e
  have hp := List.pairwise_iff_getElem.1 h
  rcases Nat.lt_trichotomy i j with c | c | c
  · exact absurd e (hp i j (by omega) (by omega) c)
  · rw [c]
  · exact absurd e.symm (hp j i (by omega) (by omega) c)
theorem IsO.th {n : Nat} {a b : List Int} (ha : IsO n a) (hb : IsO n b) : IsO n (th a b) := by
  obtain ⟨a1, a2, a3⟩ := ha
  obtain ⟨b1, b2, b3⟩ := hb
  refine ⟨by unfold Pure.th; rw [List.length_map, a1], fun x hx => ?_, ?_⟩
  · obtain ⟨y, hy, rfl⟩ := List.mem_map.1 hx
    have := a2 y hy
    exact b2 _ (rg_memL this.1 (by omega))
  · show List.Pairwise _ (a.map (rg b))
    rw [List.pairwise_map]
    refine List.Pairwise.imp_of_mem (fun {x y} hx hy hne e => hne ?_) a3
    have h1 := a2 x hx
    have h2 := a2 y hy
    exact rg_inj b3 ⟨h1.1, by omega⟩ ⟨h2.1, by omega⟩ e
theorem th_assoc {n : Nat} {a b c : List Int} (ha : IsO n a) (hb : IsO n b) : th (th a b) c = th a (th b c) := by
  unfold th
  rw [List.map_map]
  refine List.map_congr_left fun x hx => ?_
  have := ha.2.1 x hx
  rw [rg_map this.1 (by have := hb.1; omega)]
  rfl
theorem iota_IsO (n : Nat) : IsO n (iota n) := ⟨iota_length n, fun x hx => iota_mem.1 hx, (iota_lt n).imp fun h => by omega⟩
theorem rg_iota {n : Nat} {v : Int} (h0 : 0 ≤ v) (h1 : v < (n : Int)) : rg (iota n) v = v := by
  obtain ⟨j, rfl⟩ := Int.eq_ofNat_of_zero_le h0
  rw [rg_nat (by rw [iota_length]; omega)]
  simp [iota]
theorem th_iota {n : Nat} {a : List Int} (ha : IsO n a) : th a (iota n) = a := by
  unfold th
  conv => rhs; rw [← List.map_id a]
  refine List.map_congr_left fun x hx => ?_
  have := ha.2.1 x hx
  exact rg_iota this.1 this.2
theorem iota_th {n : Nat} {a : List Int} (ha : IsO n a) : th (iota n) a = a := by
  refine ext_rgL (by unfold th; rw [List.length_map, iota_length, ha.1]) fun v h0 h1 => ?_
  unfold th at h1 ⊢
  rw [List.length_map, iota_length] at h1
  rw [rg_map h0 (by rw [iota_length]; exact h1), rg_iota h0 h1]
/-! powers -/
def pn (n : Nat) (a : List Int) : Nat → List Int
  | 0 => iota n
  | m + 1 => th (pn n a m) a
theorem pn_IsO {n : Nat} {a : List Int} (ha : IsO n a) : ∀ m, IsO n (pn n a m)
  | 0 => iota_IsO n
  | m + 1 => (pn_IsO ha m).th ha
theorem pn_add {n : Nat} {a : List Int} (ha : IsO n a) (i : Nat) : ∀ j, th (pn n a i) (pn n a j) = pn n a (i + j)
  | 0 => th_iota (pn_IsO ha i)
  | j + 1 => by
    show th (pn n a i) (th (pn n a j) a) = th (pn n a (i + j)) a
    rw [← th_assoc (pn_IsO ha i) (pn_IsO ha j), pn_add ha i j]
theorem pn_one {n : Nat} {a : List Int} (ha : IsO n a) : pn n a 1 = a := iota_th ha
theorem pn_two {n : Nat} {a : List Int} (ha : IsO n a) : pn n a 2 = th a a := by
  show th (pn n a 1) a = _
  rw [pn_one ha]
theorem pn_sq {n : Nat} {a : List Int} (ha : IsO n a) : ∀ m, pn n (th a a) m = pn n a (2 * m)
  | 0 => rfl
  | m + 1 => by
    show th (pn n (th a a) m) (th a a) = _
    rw [pn_sq ha m, ← pn_two ha, pn_add ha]
    rfl
/-! those that commute -/
def Cm (a b : List Int) : Prop := th a b = th b a
theorem Cm.mul {n : Nat} {x a b : List Int} (hx : IsO n x) (ha : IsO n a) (hb : IsO n b) (h1 : Cm x a) (h2 : Cm x b) : Cm x (th a b) := by
  unfold Cm at *
  rw [← th_assoc hx ha, h1, th_assoc ha hx, h2, th_assoc ha hb]
theorem Cm.one {n : Nat} {x : List Int} (hx : IsO n x) : Cm x (iota n) := by
  unfold Cm
  rw [th_iota hx, iota_th hx]
theorem Cm.pow {n : Nat} {x a : List Int} (hx : IsO n x) (ha : IsO n a) (h : Cm x a) : ∀ m, Cm x (pn n a m)
  | 0 => Cm.one hx
  | m + 1 => (Cm.pow hx ha h m).mul hx (pn_IsO ha m) ha h
theorem Cm.symm {a b : List Int} (h : Cm a b) : Cm b a := Eq.symm h
def gL (L : List (List Int)) (v : Int) : List Int := L.getD v.toNat []
theorem gL_gt {L : List (List Int)} {v : Int} (h0 : 0 ≤ v) (h1 : v < (L.length : Int)) : gt L v = some (gL L v) := by
  obtain ⟨j, rfl⟩ := Int.eq_ofNat_of_zero_le h0
  rw [gt_nat (show j < L.length by omega)]
  unfold gL
  rw [Int.toNat_natCast, List.getD_eq_getElem?_getD, List.getElem?_eq_getElem (by omega)]
  rfl
theorem gL_mem {L : List (List Int)} {v : Int} (h0 : 0 ≤ v) (h1 : v < (L.length : Int)) : gL L v ∈ L := by
  obtain ⟨j, rfl⟩ := Int.eq_ofNat_of_zero_le h0
  unfold gL
  rw [Int.toNat_natCast, List.getD_eq_getElem?_getD, List.getElem?_eq_getElem (by omega)]
  exact List.getElem_mem _
theorem gL_app {L M : List (List Int)} {v : Int} (h0 : 0 ≤ v) (h1 : v < (L.length : Int)) : gL (L ++ M) v = gL L v := by
  unfold gL
  rw [List.getD_eq_getElem?_getD, List.getD_eq_getElem?_getD, List.getElem?_append_left (by omega)]
theorem gL_new {L : List (List Int)} {x : List Int} {v : Int} (h : v = (L.length : Int)) : gL (L ++ [x]) v = x := by
  subst h
  unfold gL
  rw [Int.toNat_natCast, List.getD_eq_getElem?_getD, List.getElem?_append_right (Nat.le_refl _), Nat.sub_self]
  rfl
/-- The product of powers of the first m. -/
def prd (n : Nat) (L : List (List Int)) (f : Nat → Nat) : Nat → List Int
  | 0 => iota n
  | m + 1 => th (prd n L f m) (pn n (gL L (m : Int)) (f m))
section
variable {n : Nat} {L : List (List Int)}
theorem prd_IsO (hL : ∀ a ∈ L, IsO n a) (f : Nat → Nat) : ∀ m, m ≤ L.length → IsO n (prd n L f m)
  | 0, _ => iota_IsO n
  | m + 1, h => (prd_IsO hL f m (by omega)).th (pn_IsO (hL _ (gL_mem (by omega) (by omega))) _)
theorem prd_congr {f g : Nat → Nat} : ∀ m, (∀ j, j < m → f j = g j) → prd n L f m = prd n L g m
  | 0, _ => rfl
  | m + 1, h => by
    simp only [prd]
    rw [prd_congr m fun j hj => h j (by omega), h m (by omega)]
theorem prd_comm (hL : ∀ a ∈ L, IsO n a) {x : List Int} (hx : IsO n x) (hc : ∀ a ∈ L, Cm x a) (f : Nat → Nat) : ∀ m, m ≤ L.length → Cm x (prd n L f m)
  | 0, _ => Cm.one hx
  | m + 1, h => (prd_comm hL hx hc f m (by omega)).mul hx (prd_IsO hL f m (by omega)) (pn_IsO (hL _ (gL_mem (by omega) (by omega))) _) ((hc _ (gL_mem (by omega) (by omega))).pow hx (hL _ (gL_mem (by omega) (by omega))) _)
theorem prd_add (hL : ∀ a ∈ L, IsO n a) (hc : ∀ a ∈ L, ∀ b ∈ L, Cm a b) (f g : Nat → Nat) : ∀ m, m ≤ L.length → th (prd n L f m) (prd n L g m) = prd n L (fun j => f j + g j) m
  | 0, _ => th_iota (iota_IsO n)
  | m + 1, h => by
    have hm := gL_mem (L := L) (v := (m : Int)) (by omega) (by omega)
    have ha := hL _ hm
    have p1 := prd_IsO hL f m (by omega)
    have p2 := prd_IsO hL g m (by omega)
    have q1 := pn_IsO ha (f m)
    have q2 := pn_IsO ha (g m)
    have c1 : Cm (pn n (gL L (m : Int)) (f m)) (prd n L g m) := ((prd_comm hL ha (hc _ hm) g m (by omega)).symm.pow p2 ha (f m)).symm
    show th (th (prd n L f m) (pn n (gL L (m : Int)) (f m))) (th (prd n L g m) (pn n (gL L (m : Int)) (g m))) = th (prd n L (fun j => f j + g j) m) (pn n (gL L (m : Int)) (f m + g m))
    rw [← prd_add hL hc f g m (by omega), ← pn_add ha, th_assoc p1 q1, ← th_assoc q1 p2, c1, th_assoc p2 q1, ← th_assoc p1 p2]
theorem prd_delta (hL : ∀ a ∈ L, IsO n a) (u : Nat) : ∀ m, m ≤ L.length → prd n L (fun j => if u = j then 1 else 0) m = if u < m then gL L (u : Int) else iota n
  | 0, _ => rfl
  | m + 1, h => by
    have ha := hL _ (gL_mem (L := L) (v := (m : Int)) (by omega) (by omega))
    simp only [prd]
    rw [prd_delta hL u m (by omega)]
    by_cases c : u = m
    · subst c
      rw [if_neg (by omega), if_pos rfl, if_pos (by omega), pn_one ha, iota_th ha]
    · rw [if_neg (c := u = m) c]
      by_cases d : u < m
      · rw [if_pos d, if_pos (by omega)]
        exact th_iota (hL _ (gL_mem (by omega) (by omega)))
      · rw [if_neg d, if_neg (by omega)]
        exact th_iota (iota_IsO n)
end
/-! values along a plan -/
def pv : List SStep → List (List Int) → List (List Int)
  | [], L => L
  | y :: ys, L => pv ys (L ++ [th (gL L y.f0) (gL L y.f1)])
theorem pv_len (s : List SStep) (L : List (List Int)) : (pv s L).length = L.length + s.length := by
  induction s generalizing L with
  | nil => rfl
  | cons y ys ih =>
    rw [pv, ih, List.length_append, List.length_singleton, List.length_cons]
    omega
theorem pv_pre (s : List SStep) (L : List (List Int)) {v : Int} (h0 : 0 ≤ v) (h1 : v < (L.length : Int)) : gL (pv s L) v = gL L v := by
  induction s generalizing L with
  | nil => rfl
  | cons y ys ih => rw [pv, ih _ (by rw [List.length_append]; omega), gL_app h0 h1]
theorem pv_all {n : Nat} (s : List SStep) (L : List (List Int)) (h : Ok L.length s) (hL : ∀ a ∈ L, IsO n a) : ∀ a ∈ pv s L, IsO n a := by
  induction s generalizing L with
  | nil => exact hL
  | cons y ys ih =>
    have h1 := h.1
    refine ih _ (by rw [List.length_append, List.length_singleton]; exact h.2) fun a ha => ?_
    rcases List.mem_append.1 ha with q | q
    · exact hL a q
    · rw [List.mem_singleton.1 q]
      exact (hL _ (gL_mem h1.1 (by omega))).th (hL _ (gL_mem (by omega) (by omega)))
theorem pv_at {s : List SStep} {L : List (List Int)} (h : Ok L.length s) {m : Nat} {y : SStep} (hm : s[m]? = some y) : gL (pv s L) ((L.length + m : Nat) : Int) = th (gL (pv s L) y.f0) (gL (pv s L) y.f1) := by
  induction s generalizing L m with
  | nil => simp at hm
  | cons z zs ih =>
    have h1 := h.1
    have hl : (L ++ [th (gL L z.f0) (gL L z.f1)]).length = L.length + 1 := by rw [List.length_append, List.length_singleton]
    have h2 : Ok (L ++ [th (gL L z.f0) (gL L z.f1)]).length zs := by rw [hl]; exact h.2
    rw [pv]
    cases m with
    | zero =>
      obtain rfl : z = y := by simpa using hm
      rw [pv_pre _ _ (by omega) (by rw [hl]; omega), gL_new (by omega), pv_pre _ _ h1.1 (by rw [hl]; omega), pv_pre _ _ (by omega) (by rw [hl]; omega), gL_app h1.1 (by omega), gL_app (by omega) (by omega)]
    | succ m =>
      have := ih h2 (m := m) (by simpa using hm)
      rw [hl, show L.length + 1 + m = L.length + (m + 1) by omega] at this
      exact this
/-- Each value is the product of the inputs' powers by its exponents. -/
theorem pv_lin {n I : Nat} {s : List SStep} (hs : Ok I s) {L : List (List Int)} (hL : L.length = I) (ho : ∀ a ∈ L, IsO n a) (hc : ∀ a ∈ L, ∀ b ∈ L, Cm a b) (v : Int) (h0 : 0 ≤ v) (h1 : v < ((I + s.length : Nat) : Int)) : gL (pv s L) v = prd n L (fun j => (rg (vl s (unitR I j)) v).toNat) I := by
  obtain ⟨N, hn⟩ : ∃ N, v.toNat = N := ⟨_, rfl⟩
  induction N using Nat.strongRecOn generalizing v with
  | _ N ih =>
    by_cases c : v < (I : Int)
    · obtain ⟨u, rfl⟩ := Int.eq_ofNat_of_zero_le h0
      rw [pv_pre _ _ h0 (by omega)]
      have := prd_delta ho u I (by omega)
      rw [if_pos (by omega)] at this
      rw [← this]
      refine prd_congr I fun j hj => ?_
      rw [vl_pre _ _ h0 (by rw [unitR_len]; omega), unitR_rg hj h0 c]
      by_cases e : u = j
      · rw [if_pos e, if_pos (by omega)]; rfl
      · rw [if_neg e, if_neg (by omega)]; rfl
    · obtain ⟨x, rfl⟩ : ∃ x : Nat, v = ((I + x : Nat) : Int) := ⟨(v - (I : Int)).toNat, by omega⟩
      have hx : x < s.length := by omega
      have hy := List.getElem?_eq_getElem hx
      have q := hs.at hy
      have a1 := pv_at (L := L) (by rw [hL]; exact hs) hy
      rw [hL] at a1
      have e0 := ih s[x].f0.toNat (by omega) s[x].f0 (by omega) (by omega) rfl
      have e1 := ih s[x].f1.toNat (by omega) s[x].f1 (by omega) (by omega) rfl
      rw [a1, e0, e1, prd_add ho hc _ _ I (by omega)]
      refine prd_congr I fun j hj => ?_
      have a2 := vl_at (l := unitR I j) (by rw [unitR_len]; exact hs) hy
      rw [unitR_len] at a2
      have g : ∀ u : Int, 0 ≤ rg (vl s (unitR I j)) u := rg_le0 (vl_ge (unitR_ge I j))
      have g0 := g s[x].f0
      have g1 := g s[x].f1
      rw [a2]
      omega
/-! the functions -/
theorem then_ok (a b : List Int) (h : ∀ y ∈ a, 0 ≤ y ∧ y < (b.length : Int)) (hb : a.length ≤ 1000) : impl_then.f a b = some (th a b) := by
  unfold impl_then.f
  rw [ren_eq b a h hb]
  rfl
theorem mp_l0 (L : List Int) (ys : List Int) (acc : List Int) (j : Int) (h : ∀ y ∈ ys, 0 ≤ y ∧ y < (L.length : Int)) (hb : acc.length + ys.length ≤ 100000) : spec_moPick.l0 L ys acc j = some (acc ++ ys.map (rg L)) := by
  induction ys generalizing acc j with
  | nil => simp [spec_moPick.l0]
  | cons y ys ih =>
    have hy := h y List.mem_cons_self
    simp only [List.length_cons] at hb
    simp only [spec_moPick.l0]
    rw [rg_gt hy.1 hy.2, Option.bind_some, ap_ok (by simp; omega), Option.bind_some, ih _ _ (fun z hz => h z (List.mem_cons_of_mem _ hz)) (by rw [List.length_append, List.length_singleton]; omega)]
    simp
theorem moThen_ok (a b : List Int) (h : ∀ y ∈ a, 0 ≤ y ∧ y < (b.length : Int)) (hb : a.length ≤ 1000) : spec_moThen.f a b = some (th a b) := by
  unfold spec_moThen.f spec_moPick.f
  rw [mp_l0 b a [] 0 h (by simp; omega)]
  rfl
theorem then_O {n : Nat} {a b : List Int} (hn : n ≤ 1000) (ha : IsO n a) (hb : IsO n b) : impl_then.f a b = some (th a b) := then_ok a b (fun y hy => by have := ha.2.1 y hy; have := hb.1; omega) (by rw [ha.1]; exact hn)
theorem moThen_O {n : Nat} {a b : List Int} (hn : n ≤ 1000) (ha : IsO n a) (hb : IsO n b) : spec_moThen.f a b = some (th a b) := moThen_ok a b (fun y hy => by have := ha.2.1 y hy; have := hb.1; omega) (by rw [ha.1]; exact hn)
theorem half (m : Nat) : ((m : Int)).tdiv 2 = ((m / 2 : Nat) : Int) ∧ ((m : Int)).tmod 2 = ((m % 2 : Nat) : Int) := by
  rw [Int.tdiv_eq_ediv_of_nonneg (by omega), Int.tmod_eq_emod_of_nonneg (by omega)]
  omega
theorem pow_step {n : Nat} {one a : List Int} (h1 : IsO n one) (ha : IsO n a) (m : Nat) : th (if m % 2 = 1 then th one a else one) (pn n (th a a) (m / 2)) = th one (pn n a m) := by
  rw [pn_sq ha]
  by_cases c : m % 2 = 1
  · rw [if_pos c, th_assoc h1 ha, show th a (pn n a (2 * (m / 2))) = th (pn n a 1) (pn n a (2 * (m / 2))) by rw [pn_one ha], pn_add ha, show 1 + 2 * (m / 2) = m by omega]
  · rw [if_neg c, show 2 * (m / 2) = m by omega]
theorem pow_l0 {n : Nat} (hn : n ≤ 1000) (m : Nat) (hm : m ≤ 1000000000) : ∀ one a : List Int, IsO n one → IsO n a → ∃ z, Ev (fun k => impl_power_int.l0 k one a (m : Int)) (th one (pn n a m), z) := by
  induction m using Nat.strongRecOn with
  | _ m ih =>
    intro one a h1 ha
    by_cases c : m = 0
    · subst c
      refine ⟨a, shift ?_⟩
      simp only [impl_power_int.l0]
      rw [show th one (pn n a 0) = one from th_iota h1]
      exact neg (by omega) (ret _)
    · obtain ⟨hd, hr⟩ := half m
      have h2 : IsO n (if m % 2 = 1 then th one a else one) := by
        split
        · exact h1.th ha
        · exact h1
      obtain ⟨z, e⟩ := ih (m / 2) (by omega) (by omega) _ _ h2 (ha.th ha)
      rw [pow_step h1 ha] at e
      refine ⟨z, shift ?_⟩
      simp only [impl_power_int.l0]
      rw [hd, hr, w64_id (by omega)]
      refine pos (by omega) (bind0 (a := if m % 2 = 1 then th one a else one) ?_ (bind0 (then_O hn ha ha) e))
      by_cases d : m % 2 = 1
      · rw [if_pos (by omega), if_pos d, then_O hn h1 ha]
        rfl
      · rw [if_neg (by omega), if_neg d]
theorem raise_l1 {n : Nat} (hn : n ≤ 1000) (m : Nat) (hm : m ≤ 1000000000) : ∀ one a : List Int, IsO n one → IsO n a → ∃ z, Ev (fun k => spec_moRaise.l1 k one a (m : Int)) (th one (pn n a m), z) := by
  induction m using Nat.strongRecOn with
  | _ m ih =>
    intro one a h1 ha
    by_cases c : m = 0
    · subst c
      refine ⟨a, shift ?_⟩
      simp only [spec_moRaise.l1]
      rw [show th one (pn n a 0) = one from th_iota h1]
      exact neg (by omega) (ret _)
    · obtain ⟨hd, hr⟩ := half m
      have h2 : IsO n (if m % 2 = 1 then th one a else one) := by
        split
        · exact h1.th ha
        · exact h1
      obtain ⟨z, e⟩ := ih (m / 2) (by omega) (by omega) _ _ h2 (ha.th ha)
      rw [pow_step h1 ha] at e
      refine ⟨z, shift ?_⟩
      simp only [spec_moRaise.l1]
      rw [hd, hr, w64_id (by omega)]
      refine pos (by omega) (bind0 (a := if m % 2 = 1 then th one a else one) ?_ (bind0 (moThen_O hn ha ha) e))
      by_cases d : m % 2 = 1
      · rw [if_pos (by omega), if_pos d, moThen_O hn h1 ha]
        rfl
      · rw [if_neg (by omega), if_neg d]
theorem raise_l0 : ∀ (ys : List Int) (j : Nat), j + ys.length ≤ 100000 → spec_moRaise.l0 ys (iota j) (j : Int) = some (iota (j + ys.length))
  | [], j, _ => rfl
  | y :: ys, j, h => by
    simp only [List.length_cons] at h
    simp only [spec_moRaise.l0]
    rw [ap_ok (by rw [iota_length]; simp; omega), Option.bind_some, ← iota_succ, show (j : Int) + 1 = ((j + 1 : Nat) : Int) by omega, raise_l0 ys (j + 1) (by omega), List.length_cons, show j + 1 + ys.length = j + (ys.length + 1) by omega]
theorem raise_ev {n : Nat} (hn : n ≤ 1000) {a : List Int} (ha : IsO n a) (m : Nat) (hm : m ≤ 1000000000) : Ev (fun k => spec_moRaise.f k a (m : Int)) (pn n a m) := by
  unfold spec_moRaise.f
  have h0 := raise_l0 a 0 (by rw [ha.1]; omega)
  rw [Nat.zero_add, ha.1] at h0
  obtain ⟨z, e⟩ := raise_l1 hn m hm (iota n) a (iota_IsO n) ha
  rw [iota_th (pn_IsO ha m)] at e
  exact bind0 h0 (bind e (ret _))
/-! what is a permutation -/
def isP (l : List Int) : Bool := decide (1 ≤ l.length ∧ l.length ≤ 8) && decide (IsO l.length l)
theorem isP_iff {l : List Int} : isP l = true ↔ (1 ≤ l.length ∧ l.length ≤ 8) ∧ IsO l.length l := by
  unfold isP
  rw [Bool.and_eq_true, decide_eq_true_eq, decide_eq_true_eq]
theorem isP_impl (l : List Int) (hl : l.length ≤ 100000) : impl_IsPermutation.f l = some (isP l) := by
  unfold impl_IsPermutation.f isP
  rw [in_eq, Option.bind_some]
  by_cases c : 1 ≤ l.length ∧ l.length ≤ 8
  · rw [decide_eq_true (show 1 ≤ (l.length : Int) ∧ (l.length : Int) ≤ 8 by omega), if_pos rfl, isOrder_eq l l.length (by omega) (by omega), decide_eq_true c]
    rfl
  · rw [decide_eq_false (show ¬ (1 ≤ (l.length : Int) ∧ (l.length : Int) ≤ 8) by omega), decide_eq_false c]
    rfl
theorem mop_l0 (l : List Int) (hl : l.length ≤ 8) : ∀ (ys pre : List Int), l = pre ++ ys → (pre.Nodup ∧ ∀ x ∈ pre, 0 ≤ x ∧ x < (l.length : Int)) → spec_moPermutation.l0 l ys (pre.length : Int) = some (if IsO l.length l then .inr () else .inl false) := by
  intro ys
  induction ys with
  | nil =>
    intro pre he hp
    rw [List.append_nil] at he
    rw [if_pos ⟨rfl, by rw [he] at hp ⊢; exact hp.2, by rw [he]; exact hp.1⟩]
    rfl
  | cons y ys ih =>
    intro pre he hp
    have hlen : l.length = pre.length + (ys.length + 1) := by rw [he, List.length_append, List.length_cons]
    simp only [spec_moPermutation.l0]
    rw [l1In_eq, Option.bind_some, w64_id (by omega)]
    by_cases c : 0 ≤ y ∧ y ≤ (l.length : Int) - 1
    · rw [decide_eq_true c, if_pos rfl, ct_take l pre.length (by omega), Option.bind_some, show l.take pre.length = pre by rw [he]; simp, l1Has_eq, Option.bind_some]
      by_cases d : y ∈ pre
      · rw [decide_eq_true d, if_pos rfl, if_neg]
        rintro ⟨_, _, h3⟩
        rw [he, List.nodup_append] at h3
        exact h3.2.2 y d y List.mem_cons_self rfl
      · rw [decide_eq_false d, if_neg (by simp)]
        have := ih (pre ++ [y]) (by rw [he]; simp) ⟨by
          rw [List.nodup_append]
          exact ⟨hp.1, by simp, fun a ha b hb e => d (by rw [List.mem_singleton.1 hb] at e; rw [← e]; exact ha)⟩, fun x hx => by
          rcases List.mem_append.1 hx with q | q
          · exact hp.2 x q
          · rw [List.mem_singleton.1 q]; omega⟩
        rw [List.length_append, List.length_singleton] at this
        rw [show (pre.length : Int) + 1 = ((pre.length + 1 : Nat) : Int) by omega]
        exact this
    · rw [decide_eq_false c, if_neg (by simp), if_neg]
      rintro ⟨_, h2, _⟩
      have := h2 y (by rw [he]; simp)
      omega
theorem isP_spec (l : List Int) : spec_IsPermutation.f l = some (isP l) := by
  unfold spec_IsPermutation.f isP
  by_cases h8 : l.length ≤ 8
  · rw [if_pos (by omega)]
    unfold spec_moPermutation.f
    have := mop_l0 l h8 l [] rfl ⟨List.nodup_nil, fun x hx => by cases hx⟩
    rw [List.length_nil] at this
    rw [show ((0 : Nat) : Int) = 0 from rfl] at this
    rw [this, Option.bind_some]
    by_cases c : IsO l.length l
    · rw [if_pos c, decide_eq_true c]
      simp only
      rw [l1In_eq, Option.bind_some, Option.bind_some]
      by_cases d : 1 ≤ l.length
      · rw [decide_eq_true (by omega), decide_eq_true ⟨d, h8⟩]
        rfl
      · rw [decide_eq_false (by omega), decide_eq_false (fun q => d q.1)]
        rfl
    · rw [if_neg c, decide_eq_false c, Bool.and_false]
      rfl
  · rw [if_neg (by omega), decide_eq_false (fun q => h8 q.2)]
    rfl
/-- Is a list a permutation with as many points as the first one? -/
def okA (L : List (List Int)) (a : List Int) : Bool := isP a && decide (a.length = (gL L 0).length)
def alB (L : List (List Int)) : Bool := L.all (okA L)
theorem alike1_eq (a : List Int) (L : List (List Int)) (ha : a.length ≤ 100000) (hL : 0 < L.length) : impl_alike_1.f a L = some (!okA L a) := by
  unfold impl_alike_1.f okA
  rw [isP_impl a ha, Option.bind_some]
  cases isP a with
  | false => rfl
  | true =>
    rw [if_pos rfl, gL_gt (Int.le_refl 0) (by omega), Option.bind_some, Bool.true_and]
    congr 1
    by_cases c : a.length = (gL L 0).length
    · rw [decide_eq_true c, decide_eq_false (by omega)]
      rfl
    · rw [decide_eq_false c, decide_eq_true (by omega)]
      rfl
theorem aidx_l0 (L : List (List Int)) (hL : 0 < L.length) (l : List (List Int)) (hl : ∀ a ∈ l, a.length ≤ 100000) (j : Int) (hj : 0 ≤ j) : ∃ r, slices_IndexFunc_int_int_3.l0 L l j = some r ∧ (if l.all (okA L) = true then r = Sum.inr () else ∃ m, r = Sum.inl m ∧ 0 ≤ m) := by
  induction l generalizing j with
  | nil => exact ⟨_, rfl, by simp⟩
  | cons y ys ih =>
    simp only [slices_IndexFunc_int_int_3.l0]
    rw [alike1_eq y L (hl y List.mem_cons_self) hL, Option.bind_some]
    rw [List.all_cons]
    by_cases hc : okA L y = true
    · obtain ⟨r, e1, e2⟩ := ih (fun a ha => hl a (List.mem_cons_of_mem _ ha)) (j + 1) (by omega)
      refine ⟨r, by rw [if_neg (by simp [hc])]; exact e1, ?_⟩
      simp only [hc, Bool.true_and]
      exact e2
    · refine ⟨Sum.inl j, by rw [if_pos (by simpa using hc)], ?_⟩
      rw [if_neg (by simp [hc])]
      exact ⟨j, rfl, hj⟩
theorem alike_impl (L : List (List Int)) (hl : ∀ a ∈ L, a.length ≤ 100000) : impl_alike.f L = some (alB L) := by
  unfold impl_alike.f slices_ContainsFunc_int_int_3.f slices_IndexFunc_int_int_3.f alB
  cases L with
  | nil => rfl
  | cons a L =>
    obtain ⟨r, e1, e2⟩ := aidx_l0 (a :: L) (Nat.succ_pos _) (a :: L) hl 0 (Int.le_refl 0)
    rw [e1, Option.bind_some]
    cases hc : (a :: L).all (okA (a :: L)) with
    | true =>
      rw [hc, if_pos rfl] at e2
      rw [e2]
      rfl
    | false =>
      rw [hc, if_neg (by simp)] at e2
      obtain ⟨m, rfl, hm⟩ := e2
      simp only [Option.bind_some]
      rw [decide_eq_true hm]
      rfl
theorem alike_l0 (L : List (List Int)) (hL : 0 < L.length) (l : List (List Int)) (j : Int) : spec_moAlike.l0 L l j = some (if l.all (okA L) = true then .inr () else .inl false) := by
  induction l generalizing j with
  | nil => rfl
  | cons y ys ih =>
    simp only [spec_moAlike.l0]
    rw [isP_spec, Option.bind_some, List.all_cons]
    by_cases hc : isP y = true
    · rw [if_pos hc, gL_gt (Int.le_refl 0) (by omega), Option.bind_some]
      by_cases c : y.length = (gL L 0).length
      · have hy : okA L y = true := by unfold okA; rw [hc, decide_eq_true c]; rfl
        rw [if_neg (by omega), ih]
        simp only [hy, Bool.true_and]
      · have hy : okA L y = false := by unfold okA; rw [decide_eq_false c, Bool.and_false]
        rw [if_pos (by omega), if_neg (by simp [hy])]
    · have hy : okA L y = false := by unfold okA; simp [hc]
      rw [if_neg hc, if_neg (by simp [hy])]
theorem alike_spec (L : List (List Int)) : spec_moAlike.f L = some (alB L && decide (L.length ≤ 6)) := by
  unfold spec_moAlike.f alB
  cases L with
  | nil => rfl
  | cons a L =>
    rw [alike_l0 (a :: L) (Nat.succ_pos _), Option.bind_some]
    cases hc : (a :: L).all (okA (a :: L)) with
    | false => rfl
    | true =>
      rw [if_pos rfl, Bool.true_and]
      simp only
      congr 1
      exact decide_eq_decide.2 (by omega)
theorem alB_IsO {L : List (List Int)} (h : alB L = true) : ∀ a ∈ L, IsO (gL L 0).length a ∧ 1 ≤ (gL L 0).length ∧ (gL L 0).length ≤ 8 := fun a ha => by
  have := List.all_eq_true.1 h a ha
  unfold okA at this
  rw [Bool.and_eq_true, decide_eq_true_eq, isP_iff] at this
  obtain ⟨⟨h1, h2⟩, h3⟩ := this
  rw [h3] at h1 h2
  exact ⟨h2, h1⟩
theorem alB_le {L : List (List Int)} (h : alB L = true) : (gL L 0).length ≤ 1000 := by
  cases L with
  | nil => exact Nat.zero_le _
  | cons a L =>
    have := (alB_IsO h a List.mem_cons_self).2.2
    omega
/-! the values -/
theorem run_l0 {n : Nat} (hn : n ≤ 1000) (L0 : List (List Int)) (ys : List SStep) (r : List (List Int)) (j : Int) (h : Ok (L0 ++ r).length ys) (ho : ∀ a ∈ L0 ++ r, IsO n a) (hb : (L0 ++ r).length + ys.length ≤ 100000) : ∃ r', impl_run_int.l0 L0 ys r j = some r' ∧ L0 ++ r' = pv ys (L0 ++ r) := by
  induction ys generalizing r j with
  | nil => exact ⟨r, rfl, rfl⟩
  | cons y ys ih =>
    have h1 := h.1
    simp only [List.length_cons] at hb
    simp only [impl_run_int.l0]
    have ha := ho _ (gL_mem (L := L0 ++ r) h1.1 (by omega))
    have hb' := ho _ (gL_mem (L := L0 ++ r) (v := y.f1) (by omega) (by omega))
    rw [gL_gt h1.1 (by omega), Option.bind_some, gL_gt (by omega) (by omega), Option.bind_some, then_O hn ha hb', Option.bind_some]
    have hx : apx L0 r [th (gL (L0 ++ r) y.f0) (gL (L0 ++ r) y.f1)] = some (r ++ [th (gL (L0 ++ r) y.f0) (gL (L0 ++ r) y.f1)]) := by
      unfold apx
      rw [ap_ok (by simp only [List.length_singleton]; omega)]
      rfl
    rw [hx, Option.bind_some]
    obtain ⟨r', e1, e2⟩ := ih (r ++ [th (gL (L0 ++ r) y.f0) (gL (L0 ++ r) y.f1)]) (j + 1) (by rw [← List.append_assoc, List.length_append, List.length_singleton]; exact h.2) (fun a hq => by
      rw [← List.append_assoc] at hq
      rcases List.mem_append.1 hq with q | q
      · exact ho a q
      · rw [List.mem_singleton.1 q]
        exact ha.th hb') (by rw [← List.append_assoc, List.length_append, List.length_singleton]; omega)
    rw [← List.append_assoc] at e2
    exact ⟨r', e1, e2⟩
theorem rp_l1 {n : Nat} (hn : n ≤ 1000) (ys : List SStep) (L : List (List Int)) (j : Int) (h : Ok L.length ys) (ho : ∀ a ∈ L, IsO n a) (hb : L.length + ys.length ≤ 100000) : spec_RunPermutations.l1 ys L j = some (pv ys L) := by
  induction ys generalizing L j with
  | nil => rfl
  | cons y ys ih =>
    have h1 := h.1
    simp only [List.length_cons] at hb
    simp only [spec_RunPermutations.l1, pv]
    have ha := ho _ (gL_mem (L := L) h1.1 (by omega))
    have hb' := ho _ (gL_mem (L := L) (v := y.f1) (by omega) (by omega))
    rw [gL_gt h1.1 (by omega), Option.bind_some, gL_gt (by omega) (by omega), Option.bind_some, moThen_O hn ha hb', Option.bind_some, ap_ok (by simp only [List.length_singleton]; omega), Option.bind_some]
    refine ih _ _ (by rw [List.length_append, List.length_singleton]; exact h.2) (fun a hq => ?_) (by rw [List.length_append, List.length_singleton]; omega)
    rcases List.mem_append.1 hq with q | q
    · exact ho a q
    · rw [List.mem_singleton.1 q]
      exact ha.th hb'
theorem rp_l0 (ys acc : List (List Int)) (j : Int) (hs : ∀ a ∈ ys, a.length ≤ 100000) (hb : acc.length + ys.length ≤ 100000) : spec_RunPermutations.l0 ys acc j = some (acc ++ ys) := by
  induction ys generalizing acc j with
  | nil => simp [spec_RunPermutations.l0]
  | cons y ys ih =>
    simp only [List.length_cons] at hb
    simp only [spec_RunPermutations.l0]
    rw [l1Own_eq y (by have := hs y List.mem_cons_self; omega), Option.bind_some, ap_ok (by simp only [List.length_singleton]; omega), Option.bind_some, ih _ _ (fun a ha => hs a (List.mem_cons_of_mem _ ha)) (by rw [List.length_append, List.length_singleton]; omega)]
    simp
theorem rp_l2 (V : List (List Int)) (hV : ∀ a ∈ V, a.length ≤ 100000) (ys : List Int) (acc : List (List Int)) (j : Int) (h : ∀ y ∈ ys, 0 ≤ y ∧ y < (V.length : Int)) (hb : acc.length + ys.length ≤ 100000) : spec_RunPermutations.l2 V ys acc j = some (acc ++ ys.map (gL V)) := by
  induction ys generalizing acc j with
  | nil => simp [spec_RunPermutations.l2]
  | cons y ys ih =>
    have hy := h y List.mem_cons_self
    simp only [List.length_cons] at hb
    simp only [spec_RunPermutations.l2]
    rw [gL_gt hy.1 hy.2, Option.bind_some, l1Own_eq _ (by have := hV _ (gL_mem hy.1 hy.2); omega), Option.bind_some, ap_ok (by simp only [List.length_singleton]; omega), Option.bind_some, ih _ _ (fun z hz => h z (List.mem_cons_of_mem _ hz)) (by rw [List.length_append, List.length_singleton]; omega)]
    simp
theorem of_l0 (V : List (List Int)) (ys js : List Int) (j : Int) (h : ∀ y ∈ ys, 0 ≤ y ∧ y < (V.length : Int)) (hb : js.length + ys.length ≤ 100000) : impl_outputsOf_int.l0 V ys js j = some (js ++ ys) := by
  induction ys generalizing js j with
  | nil => simp [impl_outputsOf_int.l0]
  | cons y ys ih =>
    have hy := h y List.mem_cons_self
    simp only [List.length_cons] at hb
    simp only [impl_outputsOf_int.l0]
    rw [gL_gt hy.1 hy.2, Option.bind_some, ap_ok (by simp only [List.length_singleton]; omega), Option.bind_some, ih _ _ (fun z hz => h z (List.mem_cons_of_mem _ hz)) (by rw [List.length_append, List.length_singleton]; omega)]
    simp
theorem pks_eq (V : List (List Int)) (js : List Int) (h : ∀ y ∈ js, 0 ≤ y ∧ y < (V.length : Int)) : pks V js = js.map (gL V) := by
  unfold pks
  refine List.map_congr_left fun y hy => ?_
  rw [gL_gt (h y hy).1 (h y hy).2]
  rfl
theorem irp_l0 (ys acc : List (List Int)) (j : Int) (hs : ∀ a ∈ ys, a.length ≤ 100000) (hb : acc.length + ys.length ≤ 100000) : impl_RunPermutations.l0 ys acc j = some (acc ++ ys) := by
  induction ys generalizing acc j with
  | nil => simp [impl_RunPermutations.l0]
  | cons y ys ih =>
    simp only [List.length_cons] at hb
    simp only [impl_RunPermutations.l0]
    rw [cloneI_eq y (by have := hs y List.mem_cons_self; omega), Option.bind_some, ap_ok (by simp only [List.length_singleton]; omega), Option.bind_some, ih _ _ (fun a ha => hs a (List.mem_cons_of_mem _ ha)) (by rw [List.length_append, List.length_singleton]; omega)]
    simp
def okR (i : Int) (s : List SStep) (o : List Int) (L : List (List Int)) : Bool := good i s o && (decide ((L.length : Int) = i) && alB L)
def rpR (i : Int) (s : List SStep) (o : List Int) (L : List (List Int)) : List (List Int) × Bool := if okR i s o L = true then (o.map (gL (pv s L)), true) else ([], false)
theorem okR_good {i : Int} {s : List SStep} {o : List Int} {L : List (List Int)} (h : okR i s o L = true) : ∃ I : Nat, i = (I : Int) ∧ Good I s o ∧ L.length = I ∧ alB L = true := by
  unfold okR at h
  simp only [Bool.and_eq_true, decide_eq_true_eq] at h
  obtain ⟨I, rfl, hg⟩ := good_Good h.1
  exact ⟨I, rfl, hg, by omega, h.2.2⟩
theorem rp_impl (i : Int) (s : List SStep) (o : List Int) (L : List (List Int)) (hll : L.length ≤ 1000) (hsz : ∀ a ∈ L, a.length ≤ 100000) : Ev (fun k => impl_RunPermutations.f k i s o L) (rpR i s o L) := by
  unfold impl_RunPermutations.f rpR okR
  cases hg : good i s o with
  | false =>
    have := isPlan_ev i s o
    rw [hg] at this
    exact bind this (neg (by simp) (ret _))
  | true =>
    have hp := isPlan_ev i s o
    rw [hg] at hp
    refine bind hp (pos rfl ?_)
    by_cases c : (L.length : Int) = i
    · refine neg (by simpa using c) (bind0 (alike_impl L hsz) ?_)
      rw [decide_eq_true c]
      cases ha : alB L with
      | false => exact neg (by simp) (ret _)
      | true =>
        obtain ⟨I, hI, hG⟩ := good_Good hg
        have hLI : L.length = I := by omega
        have ho : ∀ a ∈ L, IsO (gL L 0).length a := fun a h => (alB_IsO ha a h).1
        have hok : Ok L.length s := by rw [hLI]; exact hG.ok
        have hst := hG.stp
        have hin := hG.inp
        have hou := hG.out
        obtain ⟨r', e1, e2⟩ := run_l0 (alB_le ha) L s [] 0 (by rw [List.append_nil]; exact hok) (by rw [List.append_nil]; exact ho) (by rw [List.append_nil]; omega)
        rw [List.append_nil] at e2
        have hr : impl_run_int.f i s o L = some r' := by
          unfold impl_run_int.f slices_Clone_int_int_2.f
          rw [ap_ok (by simp; omega), Option.bind_some, Option.bind_some, e1]
          rfl
        have hrange : ∀ y ∈ o, 0 ≤ y ∧ y < ((L ++ r').length : Int) := fun y hy => by
          have := hG.os y hy
          rw [e2, pv_len, hLI]
          exact this
        have hof : impl_outputsOf_int.f i s o (L ++ r') = some o := by
          unfold impl_outputsOf_int.f
          rw [of_l0 _ o [] 0 hrange (by simp; omega)]
          rfl
        have hall := pv_all s L hok ho
        have hpk := pks_eq (L ++ r') o hrange
        have hl0 : impl_RunPermutations.l0 (pks (L ++ r') o) [] 0 = some (o.map (gL (pv s L))) := by
          rw [hpk, e2, irp_l0 _ _ _ (fun a h => by
            obtain ⟨y, hy, rfl⟩ := List.mem_map.1 h
            have hy2 := hrange y hy
            rw [e2] at hy2
            have := (hall _ (gL_mem hy2.1 hy2.2)).1
            have := alB_le ha
            omega) (by simp; omega)]
          rfl
        exact pos rfl (bind0 hr (bind0 hof (bind0 hl0 (ret _))))
    · rw [decide_eq_false c]
      exact pos c (ret _)
theorem rp_spec (i : Int) (s : List SStep) (o : List Int) (L : List (List Int)) (hll : L.length ≤ 1000) (hsz : ∀ a ∈ L, a.length ≤ 100000) : Ev (fun k => spec_RunPermutations.f k i s o L) (rpR i s o L) := by
  unfold spec_RunPermutations.f rpR okR
  cases hg : good i s o with
  | false =>
    have := plGood_ev i s o
    rw [hg] at this
    exact bind this (neg (by simp) (ret _))
  | true =>
    have hp := plGood_ev i s o
    rw [hg] at hp
    refine bind hp (pos rfl ?_)
    by_cases c : (L.length : Int) = i
    · obtain ⟨I, hI, hG⟩ := good_Good hg
      have hLI : L.length = I := by omega
      have hin := hG.inp
      refine neg (by simpa using c) (bind0 (alike_spec L) ?_)
      rw [decide_eq_true c, decide_eq_true (show L.length ≤ 6 by omega), Bool.and_true]
      cases ha : alB L with
      | false => exact neg (by simp) (ret _)
      | true =>
        have ho : ∀ a ∈ L, IsO (gL L 0).length a := fun a h => (alB_IsO ha a h).1
        have hok : Ok L.length s := by rw [hLI]; exact hG.ok
        have hst := hG.stp
        have hou := hG.out
        have e0 := rp_l0 L [] 0 hsz (by simp; omega)
        rw [List.nil_append] at e0
        have e1 := rp_l1 (alB_le ha) s L 0 hok ho (by omega)
        have hall := pv_all s L hok ho
        have e2 := rp_l2 (pv s L) (fun a h => by have := (hall a h).1; have := alB_le ha; omega) o [] 0 (fun y hy => by
          have := hG.os y hy
          rw [pv_len, hLI]
          exact this) (by simp; omega)
        rw [List.nil_append] at e2
        exact pos rfl (bind0 e0 (bind0 e1 (bind0 e2 (ret _))))
    · rw [decide_eq_false c]
      exact pos c (ret _)
/-! do they commute? -/
instance (a b : List Int) : Decidable (Cm a b) := by unfold Cm; infer_instance
def Com (L : List (List Int)) : Prop := ∀ a ∈ L, ∀ b ∈ L, Cm a b
instance (L : List (List Int)) : Decidable (Com L) := by unfold Com; infer_instance
theorem dc_l1 {n : Nat} (hn : n ≤ 1000) (y : List Int) (hy : IsO n y) (ys : List (List Int)) (hs : ∀ b ∈ ys, IsO n b) (j : Int) : impl_DoCommute.l1 y ys j = some (if (∀ b ∈ ys, Cm y b) then .inr () else .inl (false, true)) := by
  induction ys generalizing j with
  | nil => simp [impl_DoCommute.l1]
  | cons z zs ih =>
    have hz := hs z List.mem_cons_self
    simp only [impl_DoCommute.l1]
    rw [then_O hn hy hz, Option.bind_some, then_O hn hz hy, Option.bind_some, eqInts_eq, Option.bind_some]
    by_cases c : th y z = th z y
    · rw [decide_eq_true c, if_pos rfl, ih (fun b hb => hs b (List.mem_cons_of_mem _ hb))]
      by_cases d : ∀ b ∈ zs, Cm y b
      · rw [if_pos d, if_pos fun b hb => by
          rcases List.mem_cons.1 hb with e | q
          · rw [e]; exact c
          · exact d b q]
      · rw [if_neg d, if_neg fun q => d fun b hb => q b (List.mem_cons_of_mem _ hb)]
    · rw [decide_eq_false c, if_neg (by simp), if_neg fun q => c (q z List.mem_cons_self)]
theorem dc_l0 {n : Nat} (hn : n ≤ 1000) (L : List (List Int)) (hL : ∀ b ∈ L, IsO n b) (ys pre : List (List Int)) (he : L = pre ++ ys) (hp : Com pre) : impl_DoCommute.l0 L ys (pre.length : Int) = some (if Com L then .inr () else .inl (false, true)) := by
  induction ys generalizing pre with
  | nil =>
    rw [List.append_nil] at he
    rw [if_pos (by rw [he]; exact hp)]
    rfl
  | cons y ys ih =>
    have hy := hL y (by rw [he]; simp)
    simp only [impl_DoCommute.l0]
    rw [ct_take L pre.length (by rw [he]; simp), Option.bind_some, show L.take pre.length = pre by rw [he]; simp, dc_l1 hn y hy pre (fun b hb => hL b (by rw [he]; exact List.mem_append_left _ hb)), Option.bind_some]
    by_cases c : ∀ b ∈ pre, Cm y b
    · rw [if_pos c]
      have := ih (pre ++ [y]) (by rw [he]; simp) (fun a ha b hb => by
        rcases List.mem_append.1 ha with q | q
        · rcases List.mem_append.1 hb with r | r
          · exact hp a q b r
          · rw [List.mem_singleton.1 r]; exact (c a q).symm
        · rw [List.mem_singleton.1 q]
          rcases List.mem_append.1 hb with r | r
          · exact c b r
          · rw [List.mem_singleton.1 r]; exact rfl)
      rw [List.length_append, List.length_singleton] at this
      rw [show (pre.length : Int) + 1 = ((pre.length + 1 : Nat) : Int) by omega]
      exact this
    · rw [if_neg c, if_neg fun q => c fun b hb => q y (by rw [he]; simp) b (by rw [he]; exact List.mem_append_left _ hb)]
theorem dc_impl (L : List (List Int)) (h6 : L.length ≤ 6) (ha : alB L = true) (hsz : ∀ a ∈ L, a.length ≤ 100000) : impl_DoCommute.f L = some (decide (Com L), true) := by
  unfold impl_DoCommute.f
  rw [if_neg (by omega), alike_impl L hsz, Option.bind_some, ha, if_pos rfl]
  have := dc_l0 (alB_le ha) L (fun a h => (alB_IsO ha a h).1) L [] rfl (fun a h => by cases h)
  rw [List.length_nil, show ((0 : Nat) : Int) = 0 from rfl] at this
  rw [this, Option.bind_some]
  by_cases c : Com L
  · rw [if_pos c, decide_eq_true c]
  · rw [if_neg c, decide_eq_false c]
theorem sdc_l1 {n : Nat} (hn : n ≤ 1000) (y : List Int) (hy : IsO n y) (ys : List (List Int)) (hs : ∀ b ∈ ys, IsO n b) (j : Int) : spec_DoCommute.l1 y ys j = some (if (∀ b ∈ ys, Cm y b) then .inr () else .inl (false, true)) := by
  induction ys generalizing j with
  | nil => simp [spec_DoCommute.l1]
  | cons z zs ih =>
    have hz := hs z List.mem_cons_self
    simp only [spec_DoCommute.l1]
    rw [moThen_O hn hy hz, Option.bind_some, moThen_O hn hz hy, Option.bind_some, l1Same_eq, Option.bind_some]
    by_cases c : th y z = th z y
    · rw [decide_eq_true c, if_pos rfl, ih (fun b hb => hs b (List.mem_cons_of_mem _ hb))]
      by_cases d : ∀ b ∈ zs, Cm y b
      · rw [if_pos d, if_pos fun b hb => by
          rcases List.mem_cons.1 hb with e | q
          · rw [e]; exact c
          · exact d b q]
      · rw [if_neg d, if_neg fun q => d fun b hb => q b (List.mem_cons_of_mem _ hb)]
    · rw [decide_eq_false c, if_neg (by simp), if_neg fun q => c (q z List.mem_cons_self)]
theorem sdc_l0 {n : Nat} (hn : n ≤ 1000) (L : List (List Int)) (hL : ∀ b ∈ L, IsO n b) (ys : List (List Int)) (hs : ∀ b ∈ ys, b ∈ L) (j : Int) : spec_DoCommute.l0 L ys j = some (if (∀ a ∈ ys, ∀ b ∈ L, Cm a b) then .inr () else .inl (false, true)) := by
  induction ys generalizing j with
  | nil => simp [spec_DoCommute.l0]
  | cons y ys ih =>
    simp only [spec_DoCommute.l0]
    rw [sdc_l1 hn y (hL y (hs y List.mem_cons_self)) L hL, Option.bind_some]
    by_cases c : ∀ b ∈ L, Cm y b
    · rw [if_pos c]
      simp only
      rw [ih (fun b hb => hs b (List.mem_cons_of_mem _ hb))]
      by_cases d : ∀ a ∈ ys, ∀ b ∈ L, Cm a b
      · rw [if_pos d, if_pos fun a ha => by
          rcases List.mem_cons.1 ha with e | q
          · rw [e]; exact c
          · exact d a q]
      · rw [if_neg d, if_neg fun q => d fun b hb => q b (List.mem_cons_of_mem _ hb)]
    · rw [if_neg c, if_neg fun q => c (q y List.mem_cons_self)]
theorem dc_spec (L : List (List Int)) (h6 : L.length ≤ 6) (ha : alB L = true) : spec_DoCommute.f L = some (decide (Com L), true) := by
  unfold spec_DoCommute.f
  rw [alike_spec, Option.bind_some, ha, decide_eq_true h6]
  rw [show (true && true) = true from rfl, if_pos rfl, sdc_l0 (alB_le ha) L (fun a h => (alB_IsO ha a h).1) L (fun b h => h) 0, Option.bind_some]
  by_cases c : Com L
  · rw [if_pos (show ∀ a ∈ L, ∀ b ∈ L, Cm a b from c), decide_eq_true c]
  · rw [if_neg (show ¬ ∀ a ∈ L, ∀ b ∈ L, Cm a b from c), decide_eq_false c]
/-! powers and products -/
theorem power_ev {n : Nat} {a : List Int} (ha : IsO n a) (hP : isP a = true) (m : Nat) (hm : m ≤ 1000000) : Ev (fun k => impl_PermutationPower.f k a (m : Int)) (pn n a m, true) := by
  have h8 := (isP_iff.1 hP).1
  have hn : n = a.length := ha.1.symm
  have he : impl_exponentOk.f (m : Int) = some true := by
    unfold impl_exponentOk.f
    rw [in_eq, Option.bind_some, decide_eq_true (by omega)]
  unfold impl_PermutationPower.f impl_power_int.f
  obtain ⟨z, e⟩ := pow_l0 (n := n) (by omega) m (by omega) (iota n) a (iota_IsO n) ha
  rw [iota_th (pn_IsO ha m)] at e
  have hf : impl_firsts.f (a.length : Int) = some (iota n) := by rw [← hn]; exact firsts_eq n (by omega)
  exact bind0 (by rw [isP_impl a (by omega), hP]) (pos rfl (bind0 he (pos rfl (bind0 hf (bind (a := pn n a m) (bind e (ret _)) (ret _))))))
theorem thenP_eq {n : Nat} {a b : List Int} (hn : 1 ≤ n ∧ n ≤ 8) (ha : IsO n a) (hb : IsO n b) : impl_ThenPermutation.f a b = some (th a b, true) := by
  have p : ∀ x : List Int, IsO n x → impl_IsPermutation.f x = some true := fun x hx => by
    rw [isP_impl x (by rw [hx.1]; omega), isP_iff.2 ⟨by rw [hx.1]; exact hn, by rw [hx.1]; exact hx⟩]
  unfold impl_ThenPermutation.f
  rw [p a ha, Option.bind_some, if_pos rfl, p b hb, Option.bind_some, if_pos rfl, if_neg (by rw [ha.1, hb.1]; simp), then_O (by omega) ha hb]
  rfl
theorem sameLists_l0 (l m : List (List Int)) (j : Nat) (h : l = m.drop j) : laws_rSameLists.l0 m l (j : Int) = some (Sum.inr ()) := by
  induction l generalizing j with
  | nil => rfl
  | cons y ys ih =>
    have hj : j < m.length := by
      rcases Nat.lt_or_ge j m.length with c | c
      · exact c
      · rw [List.drop_eq_nil_of_le c] at h; cases h
    rw [List.drop_eq_getElem_cons hj] at h
    injection h with h1 h2
    simp only [laws_rSameLists.l0]
    rw [gt_nat hj, Option.bind_some, ← h1, rSame_refl, Option.bind_some, if_pos rfl, show (j : Int) + 1 = ((j + 1 : Nat) : Int) by omega]
    exact ih (j + 1) h2
theorem rSameLists_refl (l : List (List Int)) : laws_rSameLists.f l l = some true := by
  unfold laws_rSameLists.f
  rw [if_neg (by simp)]
  have := sameLists_l0 l l 0 rfl
  rw [show ((0 : Nat) : Int) = 0 from rfl] at this
  rw [this]
  rfl
section
variable {n I : Nat} {L : List (List Int)}
theorem lw_l1 (hn : 1 ≤ n ∧ n ≤ 8) (hL : L.length = I) (ho : ∀ a ∈ L, IsO n a) (hP : ∀ a ∈ L, isP a = true) (e : List Int) (he : e.length = I) (f : Nat → Nat) (hf : ∀ j : Nat, j < I → rg e (j : Int) = (f j : Int) ∧ f j ≤ 1000000) : ∀ d j : Nat, j + d = I → Ev (fun k => laws_FnRunsOfPermutations.l1 k e (L.drop j) (prd n L f j) (j : Int)) (.inr (prd n L f I)) := by
  intro d
  induction d with
  | zero =>
    intro j hj
    obtain rfl : j = I := by omega
    rw [List.drop_eq_nil_of_le (by omega)]
    simp only [laws_FnRunsOfPermutations.l1]
    exact ret _
  | succ d ih =>
    intro j hj
    have hjl : j < L.length := by omega
    have hm := gL_mem (L := L) (v := (j : Int)) (by omega) (by omega)
    have hg : L[j] = gL L (j : Int) := by
      have h1 := gL_gt (L := L) (v := (j : Int)) (by omega) (by omega)
      rw [gt_nat hjl] at h1
      exact Option.some.inj h1
    rw [List.drop_eq_getElem_cons hjl, hg]
    simp only [laws_FnRunsOfPermutations.l1]
    obtain ⟨h1, h2⟩ := hf j (by omega)
    have h3 : gt e (j : Int) = some ((f j : Nat) : Int) := by rw [← h1]; exact rg_gt (by omega) (by omega)
    refine bind0 h3 (bind (power_ev (ho _ hm) (hP _ hm) (f j) h2) (bind0 (thenP_eq hn (prd_IsO ho f j (by omega)) (pn_IsO (ho _ hm) _)) (pos rfl (pos rfl ?_))))
    have := ih (j + 1) (by omega)
    rw [show (j : Int) + 1 = ((j + 1 : Nat) : Int) by omega]
    exact this
theorem lw_l0 {s : List SStep} {o : List Int} (h : Good I s o) (hn : 1 ≤ n ∧ n ≤ 8) (hL : L.length = I) (ho : ∀ a ∈ L, IsO n a) (hP : ∀ a ∈ L, isP a = true) (hc : Com L) : ∀ d j : Nat, j + d = o.length → Ev (fun k => laws_FnRunsOfPermutations.l0 k L (o.map (gL (pv s L))) ((pw I s o).drop j) (j : Int)) (.inr ()) := by
  have hin := h.inp
  intro d
  induction d with
  | zero =>
    intro j hj
    rw [List.drop_eq_nil_of_le (by rw [pw_len]; omega)]
    simp only [laws_FnRunsOfPermutations.l0]
    exact ret _
  | succ d ih =>
    intro j hj
    have hjo : j < o.length := by omega
    have hjp : j < (pw I s o).length := by rw [pw_len]; exact hjo
    have hv := h.os o[j] (List.getElem_mem _)
    obtain ⟨r1, r2⟩ := good_row h hv.1 hv.2
    have hrow : (pw I s o)[j] = (exps I s).getD o[j].toNat [] := by
      simp only [pw, List.getElem_map]
    rw [List.drop_eq_getElem_cons hjp, hrow]
    generalize (exps I s).getD o[j].toNat [] = e at r1 r2
    have hm0 := gL_mem (L := L) (v := 0) (by omega) (by omega)
    have g : ∀ q u : Nat → Int, True := fun _ _ => trivial
    have hge : ∀ q : Nat, 0 ≤ rg (vl s (unitR I q)) o[j] := fun q => rg_le0 (vl_ge (unitR_ge I q)) _
    have hl1 := lw_l1 hn hL ho hP e r1 (fun q => (rg (vl s (unitR I q)) o[j]).toNat) (fun q hq => by
      have h1 := r2 q hq
      have h2 := h.le q hq o[j] hv.1 hv.2
      have h3 := hge q
      exact ⟨by rw [h1]; omega, by omega⟩) I 0 (by omega)
    rw [← pv_lin h.ok hL ho hc o[j] hv.1 hv.2] at hl1
    have hp0 : Ev (fun k => impl_PermutationPower.f k (gL L 0) 0) (iota n, true) := power_ev (ho _ hm0) (hP _ hm0) 0 (by omega)
    simp only [laws_FnRunsOfPermutations.l0]
    have hout : gt (o.map (gL (pv s L))) (j : Int) = some (gL (pv s L) o[j]) := by
      rw [gt_nat (by rw [List.length_map]; exact hjo), List.getElem_map]
    refine bind0 (gL_gt (L := L) (v := 0) (by omega) (by omega)) (bind hp0 (bind hl1 (pos rfl (bind0 hout (bind0 (rSame_refl _) (pos rfl ?_))))))
    have := ih (j + 1) (by omega)
    rw [show (j : Int) + 1 = ((j + 1 : Nat) : Int) by omega]
    exact this
end
/-! draws -/
theorem wInputs {c : List Int} (hc : Bytes c) (hl : c.length ≤ 1048576) {a : Int} {m : Nat} (ha : Bud a (m + 1)) (sd : Int) : ∃ y a' sd', spec_l1Cur_inputs.f c a sd = some (y, a', sd') ∧ Bud a' m := by
  obtain ⟨y, a', sd', e, hy, hb⟩ := among_ev hc hl ha sd [1, 1, 2, 2, 3, 4] (by simp)
  unfold spec_l1Cur_inputs.f
  rw [e]
  exact ⟨_, _, _, rfl, hb⟩
theorem most9 (x : Int) : ∃ n : Nat, mx 0 (mn x 9) = (n : Int) ∧ n ≤ 9 := by
  have : 0 ≤ mx 0 (mn x 9) ∧ mx 0 (mn x 9) ≤ 9 := by
    unfold mx mn
    (repeat' split) <;> omega
  exact ⟨(mx 0 (mn x 9)).toNat, by omega, by omega⟩
theorem points_ev {c : List Int} (hc : Bytes c) (hl : c.length ≤ 1048576) {a : Int} {m : Nat} (ha : Bud a (m + 2)) (sd : Int) : ∃ (p : Nat) (a' sd' : Int), spec_l1Cur_points.f c a sd = some ((p : Int), a', sd') ∧ p ≤ 9 ∧ Bud a' m := by
  obtain ⟨b, a1, s1, e1, b1⟩ := one_ev hc hl (m := m + 1) ha sd 20
  unfold spec_l1Cur_points.f
  rw [e1, Option.bind_some]
  cases b with
  | true =>
    obtain ⟨y, a2, s2, e2, hy, b2⟩ := among_ev hc hl (m := m) b1 s1 [0, 8, 9] (by simp)
    simp only [List.mem_cons, List.not_mem_nil, or_false] at hy
    refine ⟨y.toNat, a2, s2, ?_, by omega, b2⟩
    show (if true = true then ((spec_l1Cur_among.f c a1 s1 [0, 8, 9]).bind fun x => some (x.1, x.2.1, x.2.2)) else _) = _
    rw [if_pos rfl, e2, show ((y.toNat : Nat) : Int) = y by omega]
    rfl
  | false =>
    obtain ⟨x, a2, s2, e2, x0, x1, b2⟩ := pick_ev hc hl (m := m) b1 s1 6
    refine ⟨(1 + x).toNat, a2, s2, ?_, by omega, b2⟩
    show (if false = true then _ else ((spec_l1Cur_pick.f c a1 s1 6).bind fun x => some (w64 (1 + x.1), x.2.1, x.2.2))) = _
    rw [if_neg (by simp), e2, Option.bind_some, w64_id (by omega), show (((1 + x).toNat : Nat) : Int) = 1 + x by omega]
theorem perm_l0 {c : List Int} (hc : Bytes c) (hl : c.length ≤ 1048576) (p : Nat) (hp : p ≤ 9) (m : Nat) : ∀ (d i : Nat) (out : List Int) (a sd : Int), i + d = p → out.length = i → Bud a (m + d) → ∃ out' a' sd', Ev (fun k => spec_l1Cur_permutation.l0 c (p : Int) k out a sd (i : Int)) (out', a', sd') ∧ out'.length = p ∧ Bud a' m := by
  intro d
  induction d with
  | zero =>
    intro i out a sd hi ho hb
    refine ⟨out, a, sd, shift ?_, by omega, hb⟩
    simp only [spec_l1Cur_permutation.l0]
    exact neg (by omega) (ret _)
  | succ d ih =>
    intro i out a sd hi ho hb
    obtain ⟨x, a1, s1, e1, x0, x1, b1⟩ := pick_ev hc hl (m := m + d) hb sd (w64 ((i : Int) + 1))
    rw [w64_id (by omega)] at e1 x1
    obtain ⟨x, rfl⟩ := Int.eq_ofNat_of_zero_le x0
    have hx : x ≤ i := by omega
    have h1 := ct_take out x (by omega)
    have h2 := ct_drop out x (by omega)
    obtain ⟨out', a', sd', e, q1, q2⟩ := ih (i + 1) ((out.take x ++ [(i : Int)]) ++ out.drop x) a1 s1 (by omega) (by simp; omega) b1
    refine ⟨out', a', sd', shift ?_, q1, q2⟩
    simp only [spec_l1Cur_permutation.l0]
    rw [w64_id (show -9223372036854775808 ≤ (i : Int) + 1 ∧ (i : Int) + 1 ≤ 9223372036854775807 by omega)]
    refine pos (by omega) (bind0 e1 (bind0 h1 (bind0 (ap_ok (by simp; omega)) (bind0 (ap_ok (by simp; omega)) (bind0 h2 (bind0 (ap_ok (by simp; omega)) ?_))))))
    rw [List.nil_append, show (i : Int) + 1 = ((i + 1 : Nat) : Int) by omega]
    exact e
theorem perm_ev {c : List Int} (hc : Bytes c) (hl : c.length ≤ 1048576) (p : Nat) (hp : p ≤ 9) (m : Nat) (a sd : Int) (ha : Bud a (m + 20)) : ∃ out a' sd', Ev (fun k => spec_l1Cur_permutation.f k c a sd (p : Int)) (out, a', sd') ∧ out.length = p ∧ Bud a' m := by
  obtain ⟨out, a1, s1, e1, q1, b1⟩ := perm_l0 hc hl p hp (m + 3) p 0 [] a sd (by omega) rfl (ha.le (by omega))
  unfold spec_l1Cur_permutation.f
  by_cases h0 : 0 < out.length
  · obtain ⟨b, a2, s2, e2, b2⟩ := one_ev hc hl (m := m + 2) b1 s1 40
    cases b with
    | false => exact ⟨out, a2, s2, bind e1 (bind (a := (a2, s2, false)) (pos (by omega) (bind0 e2 (ret _))) (neg (by simp) (ret _))), q1, b2.le (by omega)⟩
    | true =>
      obtain ⟨x, a3, s3, e3, x0, x1, b3⟩ := pick_ev hc hl (m := m + 1) b2 s2 (out.length : Int)
      obtain ⟨y, a4, s4, e4, hy, b4⟩ := among_ev hc hl (m := m) b3 s3 [(-1), 0, (p : Int), 4611686018427387904] (by simp)
      have hx : x < (out.length : Int) := by omega
      have hst : st out x y = some (out.set x.toNat y) := by
        unfold st
        rw [if_pos ⟨x0, hx⟩]
      exact ⟨out.set x.toNat y, a4, s4, bind e1 (bind (a := (a2, s2, true)) (pos (by omega) (bind0 e2 (ret _))) (pos rfl (bind0 e3 (bind0 e4 (bind0 (rg_gt x0 hx) (bind0 hst (ret _))))))), by rw [List.length_set]; exact q1, b4⟩
  · exact ⟨out, a1, s1, bind e1 (bind (a := (a1, s1, false)) (neg (by omega) (ret _)) (neg (by simp) (ret _))), q1, b1.le (by omega)⟩
theorem up {α : Type} {g : Nat → Option α} {r : α} (c : Nat) (h : Ev g r) : Ev (fun k => g (k + c)) r := by
  obtain ⟨K, h⟩ := h
  exact ⟨K, fun k hk => h (k + c) (by omega)⟩
theorem movers_l0 {c : List Int} (hc : Bytes c) (hl : c.length ≤ 1048576) (p : Nat) (hp : p ≤ 9) (l6 : List Int) (b : Bool) (hb6 : b = true → isP l6 = true) (m : Nat) : ∀ (d q : Nat) (out : List (List Int)) (a sd : Int), out.length + d ≤ 20 → (∀ x ∈ out, x.length ≤ 10) → Bud a (m + 30 * d) → ∃ out' a' sd', Ev (fun k => spec_l1Cur_movers.l0 (k + q) c (p : Int) l6 b k out a sd (d : Int)) (out', a', sd') ∧ out'.length = out.length + d ∧ (∀ x ∈ out', x.length ≤ 10) ∧ Bud a' m := by
  intro d
  induction d with
  | zero =>
    intro q out a sd h1 hx hb
    refine ⟨out, a, sd, shift ?_, rfl, hx, hb⟩
    simp only [spec_l1Cur_movers.l0]
    exact neg (by omega) (ret _)
  | succ d ih =>
    intro q out a sd h1 hx hb
    have e : ∀ k, k + 1 + q = k + (q + 1) := by omega
    have hadd : ∀ z : List Int, z.length ≤ 10 → ∀ x ∈ out ++ [z], x.length ≤ 10 := fun z hz x hq => by
      rcases List.mem_append.1 hq with w | w
      · exact hx x w
      · rw [List.mem_singleton.1 w]; exact hz
    by_cases hbt : b = true
    · obtain ⟨x, a1, s1, e1, x0, x1, b1⟩ := pick_ev hc hl (m := m + 30 * d) (hb.le (by omega)) sd 12
      obtain ⟨x, rfl⟩ := Int.eq_ofNat_of_zero_le x0
      have hP := isP_iff.1 (hb6 hbt)
      have hr := raise_ev (n := l6.length) (by omega) hP.2 x (by omega)
      have hz : (pn l6.length l6 x).length ≤ 10 := by rw [(pn_IsO hP.2 x).1]; omega
      obtain ⟨out', a', sd', e2, q1, q2, q3⟩ := ih (q + 1) (out ++ [pn l6.length l6 x]) a1 s1 (by rw [List.length_append, List.length_singleton]; omega) (hadd _ hz) b1
      refine ⟨out', a', sd', shift ?_, by rw [q1, List.length_append, List.length_singleton]; omega, q2, q3⟩
      simp only [spec_l1Cur_movers.l0, e]
      refine pos (by omega) (pos hbt (bind0 e1 (bind (up (q + 1) hr) (bind0 (ap_ok (by simp only [List.length_singleton]; omega)) ?_))))
      rw [w64_id (by omega), show ((d + 1 : Nat) : Int) - 1 = (d : Int) by omega]
      exact e2
    · obtain ⟨z, a1, s1, e1, hz, b1⟩ := perm_ev hc hl p hp (m + 30 * d) a sd (hb.le (by omega))
      obtain ⟨out', a', sd', e2, q1, q2, q3⟩ := ih (q + 1) (out ++ [z]) a1 s1 (by rw [List.length_append, List.length_singleton]; omega) (hadd _ (by omega)) b1
      refine ⟨out', a', sd', shift ?_, by rw [q1, List.length_append, List.length_singleton]; omega, q2, q3⟩
      simp only [spec_l1Cur_movers.l0, e]
      refine pos (by omega) (neg hbt (bind (up (q + 1) e1) (bind0 (ap_ok (by simp only [List.length_singleton]; omega)) ?_)))
      rw [w64_id (by omega), show ((d + 1 : Nat) : Int) - 1 = (d : Int) by omega]
      exact e2
theorem movers_ev {c : List Int} (hc : Bytes c) (hl : c.length ≤ 1048576) (d : Nat) (hd : d ≤ 9) (m : Nat) (a sd : Int) (ha : Bud a (m + 400)) : ∃ out a' sd', Ev (fun k => spec_l1Cur_movers.f k c a sd (d : Int)) (out, a', sd') ∧ out.length = d ∧ (∀ x ∈ out, x.length ≤ 10) ∧ Bud a' m := by
  obtain ⟨p, a1, s1, e1, hp, b1⟩ := points_ev hc hl (m := m + 398) ha sd
  obtain ⟨l6, a2, s2, e2, q2, b2⟩ := perm_ev hc hl p hp (m + 378) a1 s1 b1
  obtain ⟨b, a3, s3, e3, b3⟩ := one_ev hc hl (m := m + 377) b2 s2 2
  have h3 : (Ev (fun _ => (spec_l1Cur_one.f c a2 s2 2).bind fun (b27, i28, i29) => if b27 = true then ((spec_IsPermutation.f l6).bind fun b32 => some (i28, i29, b32)) else (some (i28, i29, false))) (a3, s3, b && isP l6)) := by
    refine bind0 e3 ?_
    cases b with
    | true => exact pos rfl (bind0 (isP_spec l6) (ret _))
    | false => exact neg (by simp) (ret _)
  obtain ⟨out, a4, s4, e4, q4, r4, b4⟩ := movers_l0 hc hl p hp l6 (b && isP l6) (fun h => by
    rw [Bool.and_eq_true] at h
    exact h.2) (m + 40) d 0 [] a3 s3 (by simp; omega) (fun x hx => by cases hx) (b3.le (by omega))
  rw [List.length_nil, Nat.zero_add] at q4
  unfold spec_l1Cur_movers.f
  by_cases h0 : 0 < out.length
  · obtain ⟨b5, a5, s5, e5, b5'⟩ := one_ev hc hl (m := m + 39) b4 s4 20
    cases b5 with
    | false => exact ⟨out, a5, s5, bind0 e1 (bind e2 (bind h3 (bind e4 (bind (a := (a5, s5, false)) (pos (by omega) (bind0 e5 (ret _))) (neg (by simp) (ret _)))))), q4, r4, b5'.le (by omega)⟩
    | true =>
      obtain ⟨p', a6, s6, e6, hp', b6⟩ := points_ev hc hl (m := m + 37) b5' s5
      obtain ⟨z, a7, s7, e7, q7, b7⟩ := perm_ev hc hl p' hp' m a6 s6 (b6.le (by omega))
      have hst : st out 0 z = some (out.set (0 : Int).toNat z) := by
        unfold st
        rw [if_pos ⟨Int.le_refl 0, by omega⟩]
      refine ⟨out.set (0 : Int).toNat z, a7, s7, bind0 e1 (bind e2 (bind h3 (bind e4 (bind (a := (a5, s5, true)) (pos (by omega) (bind0 e5 (ret _))) (pos rfl (bind0 e6 (bind e7 (bind0 (gL_gt (Int.le_refl 0) (by omega)) (bind0 hst (ret _)))))))))), by rw [List.length_set]; exact q4, fun x hx => ?_, b7⟩
      rcases List.mem_or_eq_of_mem_set hx with w | w
      · exact r4 x w
      · rw [w]; omega
  · exact ⟨out, a4, s4, bind0 e1 (bind e2 (bind h3 (bind e4 (bind (a := (a4, s4, false)) (neg (by omega) (ret _)) (neg (by simp) (ret _)))))), q4, r4, b4.le (by omega)⟩
theorem drawRP {c : List Int} (hc : Bytes c) (hl : c.length ≤ 1048576) : ∃ i s o l, Ev (fun k => spec_DrawRunPermutations.f k c) (i, s, o, l) ∧ l.length ≤ 9 ∧ ∀ x ∈ l, x.length ≤ 10 := by
  obtain ⟨y, a1, s1, e1, b1⟩ := wInputs hc hl (a := 0) (m := 3000) ⟨by omega, by omega⟩ 0
  obtain ⟨z, a2, s2, e2, hz, b2⟩ := among_ev hc hl (m := 2999) b1 s1 [3, 6, 10] (by simp)
  simp only [List.mem_cons, List.not_mem_nil, or_false] at hz
  obtain ⟨i, s, o, a3, s3, e3, ls_, lo, b3⟩ := drawAny hc hl a2 s2 y z (by omega) 2000 (b2.le (by omega))
  obtain ⟨n, en, hn⟩ := most9 i
  obtain ⟨l, a4, s4, e4, q1, q2, b4⟩ := movers_ev hc hl n hn 1000 a3 s3 (b3.le (by omega))
  refine ⟨i, s, o, l, ?_, by omega, q2⟩
  unfold spec_DrawRunPermutations.f
  refine bind0 e1 (bind0 e2 (bind e3 (bind0 (least_eq _ _) (bind0 (most_eq _ _) ?_))))
  rw [en]
  exact bind e4 (ret _)
set_option maxHeartbeats 1000000 in
theorem FnRunsOfPermutations : laws_FnRunsOfPermutations.Pure := by
  intro c1 c2 l1_ w1 l2_ w2
  refine some_of ?_
  unfold laws_FnRunsOfPermutations.f
  obtain ⟨b, hb1, hb2⟩ := big_eq c1 c2 l1_ l2_
  refine bind0 hb1 ?_
  cases b with
  | true => exact pos rfl (ret _)
  | false =>
    refine neg (by simp) ?_
    obtain ⟨i, s, o, L, e1, hL, hx⟩ := drawRP (byte_in w1) (hb2 rfl).1
    have hsz : ∀ a ∈ L, a.length ≤ 100000 := fun a h => by have := hx a h; omega
    have r1 := rp_impl i s o L (by omega) hsz
    have r2 := rp_spec i s o L (by omega) hsz
    unfold rpR at r1 r2
    refine bind e1 ?_
    by_cases c : okR i s o L = true
    · rw [if_pos c] at r1 r2
      obtain ⟨I, rfl, hG, hLI, ha⟩ := okR_good c
      have hin := hG.inp
      have hO : ∀ a ∈ L, IsO (gL L 0).length a := fun a h => (alB_IsO ha a h).1
      have hP : ∀ a ∈ L, isP a = true := fun a h => by
        have := List.all_eq_true.1 ha a h
        unfold okA at this
        rw [Bool.and_eq_true] at this
        exact this.1
      have hn := (alB_IsO ha _ (gL_mem (L := L) (v := 0) (by omega) (by omega))).2
      have d1 := dc_impl L (by omega) ha hsz
      have d2 := dc_spec L (by omega) ha
      have hex := outEx_ev hG
      refine bind r1 (bind r2 (neg (by simp) (bind0 (rSameLists_refl _) (pos rfl (pos rfl (bind0 d1 (bind0 d2 (bind hex (neg (by simp) (neg (by simp) (pos rfl ?_)))))))))))
      by_cases hC : Com L
      · rw [decide_eq_true hC]
        have hl0 := lw_l0 hG hn hLI hO hP hC o.length 0 (by omega)
        exact pos rfl (bind hl0 (ret _))
      · rw [decide_eq_false hC]
        exact neg (by simp) (ret _)
    · rw [if_neg c] at r1 r2
      exact bind r1 (bind r2 (neg (by simp) (bind0 (rSameLists_refl []) (pos rfl (neg (by simp) (ret _))))))
end Go.Proofs.Ytobaolbilllfgaa.Pure
