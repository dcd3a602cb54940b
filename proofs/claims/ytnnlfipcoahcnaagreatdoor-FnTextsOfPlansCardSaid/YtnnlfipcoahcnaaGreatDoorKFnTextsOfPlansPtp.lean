/- Pure: plans read from texts, as the program and as the documentation read them. -/
import Derived.Test.YtnnlfipcoahcnaaGreatDoorKFnTextsOfPlansPtxr
set_option linter.unusedVariables false
set_option linter.unusedSimpArgs false
namespace Go.Proofs.YtnnlfipcoahcnaaGreatDoor.Pure
open Go.RowKit Go.Proofs.YtnnlfipcoahcnaaGreatDoor.E Go.Proofs.YtnnlfipcoahcnaaGreatDoor.G2 Go.Proofs.YtnnlfipcoahcnaaGreatDoor.Hand Go.Proofs.YtnnlfipcoahcnaaGreatDoor.Frame Go.Proofs.YtnnlfipcoahcnaaGreatDoorW.PrintLast Go.Proofs.YtnnlfipcoahcnaaGreatDoorW.PrintMore Go.Lib Go.Proofs.YtnnlfipcoahcnaaGreatDoor.Txl
open Go.Proofs.YtnnlfipcoahcnaaGreatDoorW.PrintWords hiding mn mx
theorem spl_le {b : UInt8} : ∀ {s p : List UInt8}, p ∈ spl b s → p.length ≤ s.length
  | [], p, h => by
    have e : p = [] := by simpa [spl] using h
    simp [e]
  | c :: r, p, h => by
    by_cases hc : c = b
    · subst hc
      rw [spl_hit] at h
      rcases List.mem_cons.1 h with rfl | h
      · simp
      · exact Nat.le_trans (spl_le h) (by simp)
    · rw [spl_miss hc] at h
      cases hs : spl b r with
      | nil => exact absurd hs (spl_ne b r)
      | cons x t =>
        rw [hs] at h
        rcases List.mem_cons.1 h with rfl | h
        · have := spl_le (b := b) (s := r) (p := x) (by rw [hs]; simp)
          simp
          omega
        · exact Nat.le_trans (spl_le (b := b) (s := r) (p := p) (by rw [hs]; exact List.mem_cons_of_mem _ h)) (by simp)
def plP (i : Int) (s : List SStep) (o : List Int) : Int × List SStep × List Int × Bool := if good i s o = true then (i, s, o, true) else (0, [], [], false)
theorem plIfP_ev (i : Int) (s : List SStep) (o : List Int) : Ev (fun k => spec_plIf.f k i s o) (plP i s o) := by
  unfold spec_plIf.f plP
  refine bind (plGood_ev i s o) ?_
  cases good i s o with
  | true => exact pos rfl (ret _)
  | false => exact neg (by simp) (ret _)
/-! the documentation's -/
def prd (s : List UInt8) : List Int := if s = [45] then [] else (spl 44 s).map rdn
def rds : List (List UInt8) → Option (List SStep)
  | [] => some []
  | w :: ws => match spl 42 w with
    | [a, b] => (rds ws).map fun t => ⟨rdn a, rdn b⟩ :: t
    | _ => none
theorem plRead_l0 (ps : List (List UInt8)) (acc : List Int) (i : Int) (hb : acc.length + ps.length ≤ 100000000) : Ev (fun k => spec_plRead.l0 k (ps.map bs) acc i) (acc ++ ps.map rdn) := by
  induction ps generalizing acc i with
  | nil =>
    simp only [List.map_nil, spec_plRead.l0, List.append_nil]
    exact ret _
  | cons p ps ih =>
    simp only [List.length_cons] at hb
    simp only [List.map_cons, spec_plRead.l0]
    refine bind (read_ev p) (bind0 (ap_ok (by simp; omega)) ?_)
    have := ih (acc ++ [rdn p]) (i + 1) (by simp; omega)
    rw [List.append_assoc] at this
    exact this
theorem plRead_ev {s : List UInt8} (hs : s.length ≤ 4000000) : Ev (fun k => spec_plRead.f k (bs s)) (prd s) := by
  unfold spec_plRead.f prd
  by_cases c : s = [45]
  · subst c
    exact pos rfl (ret _)
  · rw [if_neg c]
    have h1 : Ev (fun k => spec_l1Split.f k (bs s) 44) ((spl 44 s).map bs) := split_ev s 44 hs
    have hl := spl_len 44 s
    refine neg (fun e => c (bs_inj (b := [45]) e)) (bind h1 (bind (plRead_l0 _ [] 0 (by simp; omega)) ?_))
    rw [List.nil_append]
    exact ret _
theorem rds_l0 (ws : List (List UInt8)) (acc : List SStep) (i : Int) (hw : ∀ w ∈ ws, w.length ≤ 4000000) (hb : acc.length + ws.length ≤ 100000000) : Ev (fun k => spec_ParsePlan.l0 k (ws.map bs) acc i) (match rds ws with
    | some t => Sum.inr (acc ++ t)
    | none => Sum.inl (0, [], [], false)) := by
  induction ws generalizing acc i with
  | nil =>
    simp only [List.map_nil, spec_ParsePlan.l0, rds, List.append_nil]
    exact ret _
  | cons w ws ih =>
    simp only [List.length_cons] at hb
    simp only [List.map_cons, spec_ParsePlan.l0, rds]
    have h1 : Ev (fun k => spec_l1Split.f k (bs w) 42) ((spl 42 w).map bs) := split_ev w 42 (hw w (by simp))
    refine bind h1 ?_
    obtain ⟨L, hL⟩ : ∃ L, spl 42 w = L := ⟨_, rfl⟩
    rw [hL]
    rcases L with _ | ⟨a, _ | ⟨b, _ | ⟨c, t⟩⟩⟩
    · exact pos (by simp) (ret _)
    · exact pos (by simp) (ret _)
    · refine neg (by simp) (bind0 (a := bs a) rfl (bind (read_ev a) (bind0 (a := bs b) rfl (bind (read_ev b) (bind0 (ap_ok (by simp; omega)) ?_)))))
      have := ih (acc ++ [⟨rdn a, rdn b⟩]) (i + 1) (fun w hw' => hw w (List.mem_cons_of_mem _ hw')) (by simp; omega)
      cases hr : rds ws with
      | none =>
        rw [hr] at this
        exact this
      | some t =>
        rw [hr] at this
        have this' : Ev _ (Sum.inr (acc ++ [⟨rdn a, rdn b⟩] ++ t)) := this
        rw [List.append_assoc] at this'
        exact this'
    · exact pos (by simp; omega) (ret _)
def sps (s : List UInt8) : Option (Int × List SStep × List Int) := match spl 58 s with
  | [a, b, c] => (if b = [45] then some [] else rds (spl 44 b)).map fun t => (rdn a, t, prd c)
  | _ => none
def spR (s : List UInt8) : Int × List SStep × List Int × Bool := match sps s with
  | some (i, t, o) => plP i t o
  | none => (0, [], [], false)
theorem sparse_ev {s : List UInt8} (hs : s.length ≤ 2000000) : Ev (fun k => spec_ParsePlan.f k (bs s)) (spR s) := by
  unfold spec_ParsePlan.f spR sps
  have h1 : Ev (fun k => spec_l1Split.f k (bs s) 58) ((spl 58 s).map bs) := split_ev s 58 (by omega)
  refine bind h1 ?_
  obtain ⟨L, hL⟩ : ∃ L, spl 58 s = L := ⟨_, rfl⟩
  have hle : ∀ p ∈ L, p.length ≤ s.length := fun p hp => spl_le (b := 58) (hL ▸ hp)
  rw [hL]
  rcases L with _ | ⟨a, _ | ⟨b, _ | ⟨c, _ | ⟨d, t⟩⟩⟩⟩
  · exact pos (by simp) (ret _)
  · exact pos (by simp) (ret _)
  · exact pos (by simp) (ret _)
  · have hc := hle c (by simp)
    have hb := hle b (by simp)
    refine neg (by simp) (bind (a := (rdn a, prd c)) (bind0 (a := bs a) rfl (bind (read_ev a) (bind0 (a := bs c) rfl (bind (plRead_ev (by omega)) (ret _))))) ?_)
    show Ev _ (match (Option.map (fun t => (rdn a, t, prd c)) (if b = [45] then some [] else rds (spl 44 b))) with
      | some (i, t, o) => plP i t o
      | none => (0, [], [], false))
    by_cases cb : b = [45]
    · subst cb
      rw [if_pos rfl]
      refine bind (a := Sum.inr []) (bind0 (a := bs [45]) rfl (neg (by simp [bs]) (ret _))) ?_
      have e := plIfP_ev (rdn a) [] (prd c)
      obtain ⟨r, hr⟩ : ∃ r, plP (rdn a) [] (prd c) = r := ⟨_, rfl⟩
      rw [hr] at e
      show Ev _ (plP (rdn a) [] (prd c))
      rw [hr]
      obtain ⟨r1, r2, r3, r4⟩ := r
      exact bind e (ret _)
    · rw [if_neg cb]
      have h2 : Ev (fun k => spec_l1Split.f k (bs b) 44) ((spl 44 b).map bs) := split_ev b 44 (by omega)
      have hl := spl_len 44 b
      have h3 := rds_l0 (spl 44 b) [] 0 (fun w hw => by have := spl_le hw; omega) (by simp; omega)
      cases hr : rds (spl 44 b) with
      | none =>
        rw [hr] at h3
        refine bind (a := Sum.inl (0, [], [], false)) (bind0 (a := bs b) rfl (pos (fun e => cb (bs_inj (b := [45]) e)) (bind0 (a := bs b) rfl (bind h2 (bind h3 (ret _)))))) ?_
        exact ret _
      | some t =>
        rw [hr] at h3
        replace h3 : Ev _ (Sum.inr t) := h3
        refine bind (a := Sum.inr t) (bind0 (a := bs b) rfl (pos (fun e => cb (bs_inj (b := [45]) e)) (bind0 (a := bs b) rfl (bind h2 (bind h3 (ret _)))))) ?_
        have e := plIfP_ev (rdn a) t (prd c)
        obtain ⟨r, hr⟩ : ∃ r, plP (rdn a) t (prd c) = r := ⟨_, rfl⟩
        rw [hr] at e
        show Ev _ (plP (rdn a) t (prd c))
        rw [hr]
        obtain ⟨r1, r2, r3, r4⟩ := r
        exact bind e (ret _)
  · exact pos (by simp; omega) (ret _)
/-! the program's -/
def ist (w : List UInt8) : SStep := ⟨ati (Lib.cut w [42]).1, ati (Lib.cut w [42]).2.1⟩
theorem ist_l0 (ws : List (List UInt8)) (acc : List SStep) (i : Int) (hw : ∀ w ∈ ws, w.length ≤ 4000000) (hb : acc.length + ws.length ≤ 1000000) : impl_ParsePlan.l0 (ws.map bs) acc i = some (acc ++ ws.map ist) := by
  induction ws generalizing acc i with
  | nil => simp [impl_ParsePlan.l0]
  | cons w ws ih =>
    simp only [List.length_cons] at hb
    have h1 := hw w (by simp)
    have h2 := cutL_le w [42]
    simp only [List.map_cons, impl_ParsePlan.l0]
    rw [show (⟨#[42]⟩ : ByteArray) = bs [42] from rfl, cut_eq (by omega), Option.bind_some]
    simp only []
    rw [numberOf_eq (by omega), Option.bind_some, numberOf_eq (by omega), Option.bind_some, ap_ok (by simp; omega), Option.bind_some, ih _ _ (fun q hq => hw q (List.mem_cons_of_mem _ hq)) (by simp; omega)]
    simp [ist]
def ips (s : List UInt8) : Option (Int × List SStep × List Int) := match spn 58 4 s with
  | [a, b, c] => some (ati a, (prt 40 b).map ist, (prt 6 c).map ati)
  | _ => none
def ipR (s : List UInt8) : Int × List SStep × List Int × Bool := match ips s with
  | some (i, t, o) => if good i t o = true ∧ ptx i t o = s then (i, t, o, true) else (0, [], [], false)
  | none => (0, [], [], false)
theorem iparse_ev {s : List UInt8} (hs : s.length ≤ 2000000) : Ev (fun k => impl_ParsePlan.f k (bs s)) (ipR s) := by
  unfold impl_ParsePlan.f ipR ips
  refine bind0 (splitN_eq (s := s) (b := 58) (n := 4) (by omega) (by omega)) ?_
  obtain ⟨L, hL⟩ : ∃ L, spn 58 4 s = L := ⟨_, rfl⟩
  have hle : ∀ p ∈ L, p.length ≤ s.length := fun p hp => (spn_le 58 4 (by omega) s).2 p (hL ▸ hp)
  rw [hL]
  rcases L with _ | ⟨a, _ | ⟨b, _ | ⟨c, _ | ⟨d, t⟩⟩⟩⟩
  · exact pos (by simp) (ret _)
  · exact pos (by simp) (ret _)
  · exact pos (by simp) (ret _)
  · have ha := hle a (by simp)
    have hb := hle b (by simp)
    have hc := hle c (by simp)
    have pb := prt_le 40 b
    have pc := prt_le 6 c
    refine neg (by simp) (bind0 (a := (ati a, (prt 6 c).map ati)) ?_ (bind0 (a := bs b) rfl (bind0 (parts_eq (n := 40) (by omega) (by omega)) (bind0 (ist_l0 _ [] 0 (fun w hw => by have := pb.2 w hw; omega) (by simp; omega)) ?_))))
    · rw [show gt (List.map bs [a, b, c]) 0 = some (bs a) from rfl, Option.bind_some, numberOf_eq (by omega), Option.bind_some, show gt (List.map bs [a, b, c]) 2 = some (bs c) from rfl, Option.bind_some, show (6 : Int) = ((6 : Nat) : Int) from rfl, parts_eq (by omega) (by omega), Option.bind_some, numbers_eq (fun p hp => by have := pc.2 p hp; omega) (by omega)]
      rfl
    · rw [List.nil_append]
      show Ev _ (if good (ati a) ((prt 40 b).map ist) ((prt 6 c).map ati) = true ∧ ptx (ati a) ((prt 40 b).map ist) ((prt 6 c).map ati) = s then (ati a, (prt 40 b).map ist, (prt 6 c).map ati, true) else (0, [], [], false))
      have hg := isPlan_ev (ati a) ((prt 40 b).map ist) ((prt 6 c).map ati)
      generalize ati a = i at hg ⊢
      generalize (prt 40 b).map ist = t at hg ⊢
      generalize (prt 6 c).map ati = o at hg ⊢
      cases cg : good i t o with
      | false =>
        rw [cg] at hg
        rw [if_neg (by simp)]
        exact bind (a := true) (bind hg (neg (by simp) (ret _))) (pos rfl (ret _))
      | true =>
        rw [cg] at hg
        obtain ⟨I, rfl, h⟩ := good_Good cg
        obtain ⟨a1, a2, a3, a4, a5⟩ := good_lo h
        have ht := ptext_eq a1 a2 a3 a4 a5
        by_cases e : ptx (I : Int) t o = s
        · rw [if_pos ⟨rfl, e⟩]
          refine bind (a := false) (bind hg (pos rfl (bind0 ht ?_))) (neg (by simp) (ret _))
          rw [e, decide_eq_false (by simp)]
          exact ret _
        · rw [if_neg (fun q => e q.2)]
          refine bind (a := true) (bind hg (pos rfl (bind0 ht ?_))) (pos rfl (ret _))
          rw [show decide (bs (ptx (I : Int) t o) ≠ bs s) = true from decide_eq_true (fun q => e (bs_inj q))]
          exact ret _
  · exact pos (by simp; omega) (ret _)
/-! both read what is written -/
theorem d58 : dig 58 = false := by decide
theorem d44 : dig 44 = false := by decide
theorem d42 : dig 42 = false := by decide
theorem d45 : dig 45 = false := by decide
theorem map_dn {o : List Int} {c : UInt8} (h : dig c = false) : ∀ p ∈ o.map dn, c ∉ p := fun p hp => by
  obtain ⟨y, _, rfl⟩ := List.mem_map.1 hp
  exact dn_not h y
theorem map_sst {s : List SStep} {c : UInt8} (h : dig c = false) (h' : c ≠ 42) : ∀ p ∈ s.map sst, c ∉ p := fun p hp => by
  obtain ⟨y, _, rfl⟩ := List.mem_map.1 hp
  exact sst_not h h' y
theorem spl_ptx (i : Int) (s : List SStep) (o : List Int) : spl 58 (ptx i s o) = [dn i, lsd (s.map sst), lsd (o.map dn)] := by
  unfold ptx
  rw [spl_cut _ (dn_not d58 i), spl_cut _ (not_lsd (by decide) (by decide) (map_sst d58 (by decide))), spl_one (not_lsd (by decide) (by decide) (map_dn d58))]
theorem spl_sst (y : SStep) : spl 42 (sst y) = [dn y.f0, dn y.f1] := by
  unfold sst
  rw [spl_cut _ (dn_not d42 _), spl_one (dn_not d42 _)]
theorem map_id_of {α β : Type} {f : α → β} {g : β → α} {l : List α} (h : ∀ x ∈ l, g (f x) = x) : (l.map f).map g = l := by
  rw [List.map_map]
  conv => rhs; rw [← List.map_id l]
  exact List.map_congr_left h
theorem rds_sst {s : List SStep} (h : Lo s) : rds (s.map sst) = some s := by
  induction s with
  | nil => rfl
  | cons y ys ih =>
    have hy := h y (by simp)
    simp only [List.map_cons, rds]
    rw [spl_sst, ih (fun z hz => h z (List.mem_cons_of_mem _ hz))]
    simp only [Option.map_some]
    rw [rdn_dn (by omega), rdn_dn (by omega)]
theorem prd_dn {o : List Int} (h : ∀ y ∈ o, 0 ≤ y ∧ y < 100) : prd (lsd (o.map dn)) = o := by
  obtain ⟨h1, h2⟩ := lsd_minus (map_dn (o := o) d45) (map_dn (o := o) d44)
  unfold prd
  by_cases c : o = []
  · subst c
    rfl
  · have c' : o.map dn ≠ [] := by simpa using c
    rw [if_neg (fun e => c' (h1.1 e)), h2 c']
    exact map_id_of fun y hy => rdn_dn (by have := h y hy; omega)
theorem sps_ptx {i : Int} {s : List SStep} {o : List Int} (hi : 0 ≤ i ∧ i < 100) (hs : Lo s) (ho : ∀ y ∈ o, 0 ≤ y ∧ y < 100) : sps (ptx i s o) = some (i, s, o) := by
  unfold sps
  rw [spl_ptx]
  show Option.map _ _ = _
  obtain ⟨h1, h2⟩ := lsd_minus (map_sst (s := s) d45 (by decide)) (map_sst (s := s) d44 (by decide))
  rw [rdn_dn (by omega), prd_dn ho]
  by_cases c : s = []
  · subst c
    rfl
  · have c' : s.map sst ≠ [] := by simpa using c
    rw [if_neg (fun e => c' (h1.1 e)), h2 c', rds_sst hs]
    rfl
theorem ist_sst {y : SStep} (h : (0 ≤ y.f0 ∧ y.f0 < 100) ∧ (0 ≤ y.f1 ∧ y.f1 < 100)) : ist (sst y) = y := by
  unfold ist sst
  rw [cut_hit (dn_not d42 _), ati_dn (by omega), ati_dn (by omega)]
theorem prt_lsd {n : Nat} {ps : List (List UInt8)} (h45 : ∀ p ∈ ps, 45 ∉ p) (h44 : ∀ p ∈ ps, 44 ∉ p) (hl : ps.length ≤ n + 1) : prt n (lsd ps) = ps := by
  obtain ⟨h1, h2⟩ := lsd_minus h45 h44
  unfold prt
  by_cases c : ps = []
  · subst c
    rfl
  · rw [if_neg (fun e => c (h1.1 e)), spn_spl (by rw [h2 c]; omega) (by omega), h2 c]
theorem ips_ptx {i : Int} {s : List SStep} {o : List Int} (hi : 0 ≤ i ∧ i < 100) (hs : Lo s) (hl : s.length ≤ 40) (ho : ∀ y ∈ o, 0 ≤ y ∧ y < 100) (hm : o.length ≤ 6) : ips (ptx i s o) = some (i, s, o) := by
  unfold ips
  rw [spn_spl (by rw [spl_ptx]; simp) (by omega), spl_ptx]
  show some _ = _
  rw [prt_lsd (map_sst d45 (by decide)) (map_sst d44 (by decide)) (by simp; omega), prt_lsd (map_dn d45) (map_dn d44) (by simp; omega), ati_dn (by omega), map_id_of fun y hy => ist_sst (hs y hy), map_id_of fun y hy => ati_dn (by have := ho y hy; omega)]
/-! what is read with a good plan is its text -/
theorem map_rdn {ps : List (List UInt8)} (h : ∀ x ∈ ps.map rdn, 0 ≤ x) : ps = (ps.map rdn).map dn := by
  rw [List.map_map]
  conv => lhs; rw [← List.map_id ps]
  exact List.map_congr_left fun p hp => rdn_ge (h _ (List.mem_map_of_mem hp))
theorem prd_ge {c : List UInt8} (h : ∀ y ∈ prd c, 0 ≤ y) : c = lsd ((prd c).map dn) := by
  unfold prd at h ⊢
  by_cases e : c = [45]
  · rw [if_pos e, e]
    rfl
  · rw [if_neg e] at h ⊢
    rw [← map_rdn h]
    unfold lsd
    rw [if_neg (spl_ne 44 c), jn_spl]
theorem rds_ge : ∀ {ws : List (List UInt8)} {t : List SStep}, rds ws = some t → (∀ y ∈ t, 0 ≤ y.f0 ∧ 0 ≤ y.f1) → ws = t.map sst
  | [], t, h, _ => by
    simp only [rds] at h
    obtain rfl := Option.some.inj h
    rfl
  | w :: ws, t, h, hp => by
    simp only [rds] at h
    split at h
    · rename_i a b hw
      obtain ⟨t', ht', rfl⟩ := Option.map_eq_some_iff.1 h
      have h0 := hp ⟨rdn a, rdn b⟩ (by simp)
      rw [List.map_cons, ← rds_ge ht' (fun y hy => hp y (List.mem_cons_of_mem _ hy))]
      congr 1
      have := jn_spl 42 w
      rw [hw] at this
      rw [← this]
      unfold sst
      rw [← rdn_ge h0.1, ← rdn_ge h0.2]
      rfl
    · cases h
theorem sps_good {x : List UInt8} {i : Int} {t : List SStep} {o : List Int} (h : sps x = some (i, t, o)) (hi : 0 ≤ i) (ht : ∀ y ∈ t, 0 ≤ y.f0 ∧ 0 ≤ y.f1) (ho : ∀ y ∈ o, 0 ≤ y) : x = ptx i t o := by
  unfold sps at h
  split at h
  · rename_i a b c hx
    obtain ⟨t', ht', e⟩ := Option.map_eq_some_iff.1 h
    simp only [Prod.mk.injEq] at e
    obtain ⟨rfl, rfl, rfl⟩ := e
    have e1 := jn_spl 58 x
    rw [hx] at e1
    have eb : b = lsd (t'.map sst) := by
      by_cases q : b = [45]
      · rw [if_pos q] at ht'
        obtain rfl := Option.some.inj ht'
        exact q
      · rw [if_neg q] at ht'
        have := rds_ge ht' ht
        rw [← this]
        unfold lsd
        rw [if_neg (spl_ne 44 b), jn_spl]
    rw [← e1]
    unfold ptx
    rw [← prd_ge ho, ← eb, ← rdn_ge hi]
    rfl
  · cases h
theorem good_ge {i : Int} {t : List SStep} {o : List Int} (h : good i t o = true) : (0 ≤ i ∧ i < 100) ∧ Lo t ∧ t.length ≤ 40 ∧ (∀ y ∈ o, 0 ≤ y ∧ y < 100) ∧ o.length ≤ 6 := by
  obtain ⟨I, rfl, g⟩ := good_Good h
  obtain ⟨a1, a2, a3, a4, a5⟩ := good_lo g
  exact ⟨a1, a2, g.stp, a4, g.out⟩
theorem ip_sp (s : List UInt8) : ipR s = spR s := by
  have back : ∀ i t o, ips s = some (i, t, o) → good i t o = true → ptx i t o = s → sps s = some (i, t, o) := fun i t o h1 h2 h3 => by
    obtain ⟨a1, a2, a3, a4, a5⟩ := good_ge h2
    rw [← h3]
    exact sps_ptx a1 a2 a4
  unfold ipR spR
  cases hs : sps s with
  | none =>
    cases hi : ips s with
    | none => rfl
    | some p =>
      obtain ⟨i, t, o⟩ := p
      show (if _ then _ else _) = _
      rw [if_neg]
      rintro ⟨h2, h3⟩
      rw [back i t o hi h2 h3] at hs
      cases hs
  | some p =>
    obtain ⟨i, t, o⟩ := p
    show _ = plP i t o
    unfold plP
    cases hg : good i t o with
    | true =>
      obtain ⟨a1, a2, a3, a4, a5⟩ := good_ge hg
      have e := sps_good hs a1.1 (fun y hy => ⟨(a2 y hy).1.1, (a2 y hy).2.1⟩) (fun y hy => (a4 y hy).1)
      rw [e, ips_ptx a1 a2 a3 a4 a5, if_pos rfl]
      show (if _ then _ else _) = _
      rw [if_pos ⟨hg, rfl⟩]
    | false =>
      rw [if_neg (by simp)]
      cases hi : ips s with
      | none => rfl
      | some p =>
        obtain ⟨i', t', o'⟩ := p
        show (if _ then _ else _) = _
        rw [if_neg]
        rintro ⟨h2, h3⟩
        rw [back i' t' o' hi h2 h3] at hs
        have e := Option.some.inj hs
        simp only [Prod.mk.injEq] at e
        obtain ⟨rfl, rfl, rfl⟩ := e
        rw [h2] at hg
        cases hg
end Go.Proofs.YtnnlfipcoahcnaaGreatDoor.Pure
