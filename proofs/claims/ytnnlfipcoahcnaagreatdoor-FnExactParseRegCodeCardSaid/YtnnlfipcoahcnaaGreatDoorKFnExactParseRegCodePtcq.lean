/- Pure: Ptc, Ptcp. -/
import Derived.Test.YtnnlfipcoahcnaaGreatDoorKFnExactParseRegCodePtxr
import Derived.Test.YtnnlfipcoahcnaaGreatDoorKFnExactParseRegCodePcf
set_option linter.unusedVariables false
set_option linter.unusedSimpArgs false
namespace Go.Proofs.YtnnlfipcoahcnaaGreatDoor.Pure
open Go.RowKit Go.Proofs.YtnnlfipcoahcnaaGreatDoor.E Go.Proofs.YtnnlfipcoahcnaaGreatDoor.G1 Go.Proofs.YtnnlfipcoahcnaaGreatDoor.Hand Go.Proofs.YtnnlfipcoahcnaaGreatDoor.Frame Go.Proofs.YtnnlfipcoahcnaaGreatDoorW.PrintLast Go.Proofs.YtnnlfipcoahcnaaGreatDoorW.PrintMore Go.Lib Go.Proofs.YtnnlfipcoahcnaaGreatDoor.Txl
open Go.Proofs.YtnnlfipcoahcnaaGreatDoorW.PrintWords hiding mn mx
def sop (y : SRegOp) : List UInt8 := dn y.f0 ++ 61 :: (dn y.f1 ++ 42 :: dn y.f2)
def LoO (s : List SRegOp) : Prop := ∀ y ∈ s, (0 ≤ y.f0 ∧ y.f0 < 100) ∧ (0 ≤ y.f1 ∧ y.f1 < 100) ∧ (0 ≤ y.f2 ∧ y.f2 < 100)
theorem sop_len {y : SRegOp} (h : (0 ≤ y.f0 ∧ y.f0 < 100) ∧ (0 ≤ y.f1 ∧ y.f1 < 100) ∧ (0 ≤ y.f2 ∧ y.f2 < 100)) : (sop y).length ≤ 8 := by
  have h1 := dn_len h.1
  have h2 := dn_len h.2.1
  have h3 := dn_len h.2.2
  unfold sop
  rw [List.length_append, List.length_cons, List.length_append, List.length_cons]
  omega
theorem sop_le {s : List SRegOp} (h : LoO s) : ∀ p ∈ s.map sop, p.length ≤ 8 := fun p hp => by
  obtain ⟨y, hy, rfl⟩ := List.mem_map.1 hp
  exact sop_len (h y hy)
theorem otext_l0 (s : List SRegOp) (acc : List ByteArray) (i : Int) (h : LoO s) (hb : acc.length + s.length ≤ 100000) : impl_RegCode_text.l0 s acc i = some (acc ++ (s.map sop).map bs) := by
  induction s generalizing acc i with
  | nil => simp [impl_RegCode_text.l0]
  | cons y ys ih =>
    have hy := h y (by simp)
    have l0 := dn_len hy.1
    have l1 := dn_len hy.2.1
    have l2 := dn_len hy.2.2
    simp only [List.length_cons] at hb
    simp only [impl_RegCode_text.l0]
    rw [itoa_eq hy.1, Option.bind_some, show (⟨#[61]⟩ : ByteArray) = bs [61] from rfl, sap_bs (by simp; omega), Option.bind_some, itoa_eq hy.2.1, Option.bind_some, sap_bs (by simp; omega), Option.bind_some, show (⟨#[42]⟩ : ByteArray) = bs [42] from rfl, sap_bs (by simp; omega), Option.bind_some, itoa_eq hy.2.2, Option.bind_some, sap_bs (by simp; omega), Option.bind_some, ap_ok (by simp; omega), Option.bind_some, ih _ _ (fun z hz => h z (List.mem_cons_of_mem _ hz)) (by simp; omega)]
    simp [sop]
/-- the text of code -/
def ctx (a : Int) (l1 : List Int) (l2 : List SRegOp) (l3 : List Int) : List UInt8 := dn a ++ 58 :: (lsd (l1.map dn) ++ 58 :: (lsd (l2.map sop) ++ 58 :: lsd (l3.map dn)))
structure LoC (a : Int) (l1 : List Int) (l2 : List SRegOp) (l3 : List Int) : Prop where
  a : 0 ≤ a ∧ a < 100
  b : ∀ y ∈ l1, 0 ≤ y ∧ y < 100
  c : LoO l2
  d : ∀ y ∈ l3, 0 ≤ y ∧ y < 100
  lb : l1.length ≤ 6
  lc : l2.length ≤ 40
  ld : l3.length ≤ 6
theorem ctext_eq {a : Int} {l1 : List Int} {l2 : List SRegOp} {l3 : List Int} (h : LoC a l1 l2 l3) : impl_RegCode_text.f a l1 l2 l3 = some (bs (ctx a l1 l2 l3)) := by
  have k1 := dn_len h.a
  have k2 := lsd_len (sop_le h.c)
  have k3 := lsd_len (dn_le h.b)
  have k4 := lsd_len (dn_le h.d)
  have q1 := h.lb
  have q2 := h.lc
  have q3 := h.ld
  rw [List.length_map] at k2 k3 k4
  unfold impl_RegCode_text.f
  rw [otext_l0 l2 [] 0 h.c (by simp; omega), Option.bind_some, List.nil_append, itoa_eq h.a, Option.bind_some, ntext_eq h.b (by omega), Option.bind_some, listed_eq (fun p hp => Nat.le_trans (sop_le h.c p hp) (by omega)) (by rw [List.length_map]; omega), Option.bind_some, ntext_eq h.d (by omega), Option.bind_some]
  have e : ([bs (dn a), bs (lsd (l1.map dn)), bs (lsd (l2.map sop)), bs (lsd (l3.map dn))] : List ByteArray) = ([dn a, lsd (l1.map dn), lsd (l2.map sop), lsd (l3.map dn)] : List (List UInt8)).map bs := rfl
  rw [e]
  have e2 : strings_Join.f (([dn a, lsd (l1.map dn), lsd (l2.map sop), lsd (l3.map dn)] : List (List UInt8)).map bs) (⟨#[58]⟩ : ByteArray) = some (bs (ctx a l1 l2 l3)) := by
    unfold strings_Join.f
    rw [map_bs]
    have e1 : Lib.join [dn a, lsd (l1.map dn), lsd (l2.map sop), lsd (l3.map dn)] ((⟨#[58]⟩ : ByteArray).data.toList) = jn 58 [dn a, lsd (l1.map dn), lsd (l2.map sop), lsd (l3.map dn)] := jn_join 58 _
    have e3 : jn 58 [dn a, lsd (l1.map dn), lsd (l2.map sop), lsd (l3.map dn)] = ctx a l1 l2 l3 := rfl
    rw [e1, e3, if_pos]
    · rfl
    · constructor
      · simp
      · unfold ctx
        simp only [List.length_append, List.length_cons]
        omega
  rw [e2]
  rfl
theorem reList_l0 (l : List Int) (ds : List (List UInt8)) (i : Int) (hi : i = (ds.length : Int)) (h : ∀ y ∈ l, 0 ≤ y ∧ y < 100) (hd : ∀ p ∈ ds, p.length ≤ 100) (hb : ds.length + l.length ≤ 2000) : Ev (fun k => spec_reList.l0 k l (bs (jn 44 ds)) i) (bs (jn 44 (ds ++ l.map dn))) := by
  induction l generalizing ds i with
  | nil =>
    simp only [spec_reList.l0, List.map_nil, List.append_nil]
    exact ret _
  | cons y ys ih =>
    have hy := h y (by simp)
    have l0 := dn_len hy
    have hj := jn_len 44 100 ds hd
    simp only [List.length_cons] at hb
    have hj2 : ds.length * (100 + 1) ≤ 2000 * 101 := Nat.mul_le_mul_right _ (by omega)
    have hnext := ih (ds ++ [dn y]) (i + 1) (by simp; omega) (fun z hz => h z (List.mem_cons_of_mem _ hz)) (fun p hp => by
      rcases List.mem_append.1 hp with hp | hp
      · exact hd p hp
      · rw [List.mem_singleton.1 hp]; omega) (by simp; omega)
    rw [List.append_assoc] at hnext
    simp only [spec_reList.l0]
    by_cases c : ds = []
    · subst c
      refine bind0 (if_neg (by rw [hi]; simp)) (bind (num_ev hy) (bind0 (sap_bs (by simp [jn]; omega)) ?_))
      exact hnext
    · have hp : 0 < ds.length := List.length_pos_iff.2 c
      refine bind0 (a := bs (jn 44 ds ++ [44])) ?_ (bind (num_ev hy) (bind0 (sap_bs (by simp; omega)) ?_))
      · rw [if_pos (by omega), show (⟨#[44]⟩ : ByteArray) = bs [44] from rfl, sap_bs (by simp; omega)]
        rfl
      · rw [jn_append 44 _ c] at hnext
        rw [List.append_assoc]
        exact hnext
theorem lsd_if {ps : List (List UInt8)} (hp : ∀ p ∈ ps, p ≠ []) : (if bs (jn 44 ps) = (⟨#[]⟩ : ByteArray) then (some (⟨#[45]⟩ : ByteArray)) else some (bs (jn 44 ps))) = some (bs (lsd ps)) := by
  unfold lsd
  by_cases c : ps = []
  · subst c
    rfl
  · rw [if_neg c, if_neg (c := bs (jn 44 ps) = (⟨#[]⟩ : ByteArray)) (fun e => jn_ne (b := 44) c hp (bs_inj (b := []) e))]
theorem dn_ne (n : Int) : dn n ≠ [] := dec_ne _
theorem sop_ne (y : SRegOp) : sop y ≠ [] := by unfold sop; simp
theorem map_ne {α : Type} {f : α → List UInt8} (h : ∀ x, f x ≠ []) (l : List α) : ∀ p ∈ l.map f, p ≠ [] := fun p hp => by
  obtain ⟨y, _, rfl⟩ := List.mem_map.1 hp
  exact h y
theorem reList_ev {l : List Int} (h : ∀ y ∈ l, 0 ≤ y ∧ y < 100) (hl : l.length ≤ 1000) : Ev (fun k => spec_reList.f k l) (bs (lsd (l.map dn))) := by
  unfold spec_reList.f
  have := reList_l0 l [] 0 rfl h (by simp) (by simp; omega)
  rw [List.nil_append] at this
  refine bind this (now ?_)
  exact lsd_if (map_ne dn_ne l)
theorem reText_l0 (l : List SRegOp) (ds : List (List UInt8)) (i : Int) (hi : i = (ds.length : Int)) (h : LoO l) (hd : ∀ p ∈ ds, p.length ≤ 100) (hb : ds.length + l.length ≤ 2000) : Ev (fun k => spec_reText.l0 k l (bs (jn 44 ds)) i) (bs (jn 44 (ds ++ l.map sop))) := by
  induction l generalizing ds i with
  | nil =>
    simp only [spec_reText.l0, List.map_nil, List.append_nil]
    exact ret _
  | cons y ys ih =>
    have hy := h y (by simp)
    have l0 := dn_len hy.1
    have l1 := dn_len hy.2.1
    have l2 := dn_len hy.2.2
    have hj := jn_len 44 100 ds hd
    simp only [List.length_cons] at hb
    have hj2 : ds.length * (100 + 1) ≤ 2000 * 101 := Nat.mul_le_mul_right _ (by omega)
    have hst := sop_len hy
    have hnext := ih (ds ++ [sop y]) (i + 1) (by simp; omega) (fun z hz => h z (List.mem_cons_of_mem _ hz)) (fun p hp => by
      rcases List.mem_append.1 hp with hp | hp
      · exact hd p hp
      · rw [List.mem_singleton.1 hp]; omega) (by simp; omega)
    rw [List.append_assoc] at hnext
    simp only [spec_reText.l0]
    have e1 : sap (bs (dn y.f0)) (⟨#[61]⟩ : ByteArray) = some (bs (dn y.f0 ++ [61])) := sap_bs (b := [61]) (by simp; omega)
    have e2 : sap (bs (dn y.f0 ++ [61])) (bs (dn y.f1)) = some (bs (dn y.f0 ++ [61] ++ dn y.f1)) := sap_bs (by simp; omega)
    have e3 : sap (bs (dn y.f0 ++ [61] ++ dn y.f1)) (⟨#[42]⟩ : ByteArray) = some (bs (dn y.f0 ++ [61] ++ dn y.f1 ++ [42])) := sap_bs (b := [42]) (by simp; omega)
    have e4 : sap (bs (dn y.f0 ++ [61] ++ dn y.f1 ++ [42])) (bs (dn y.f2)) = some (bs (sop y)) := by
      rw [sap_bs (by simp; omega)]
      unfold sop
      simp
    by_cases c : ds = []
    · subst c
      refine bind0 (if_neg (by rw [hi]; simp)) (bind (num_ev hy.1) (bind0 e1 (bind (num_ev hy.2.1) (bind0 e2 (bind0 e3 (bind (num_ev hy.2.2) (bind0 e4 (bind0 (sap_bs (by simp [jn]; omega)) ?_))))))))
      exact hnext
    · have hp : 0 < ds.length := List.length_pos_iff.2 c
      refine bind0 (a := bs (jn 44 ds ++ [44])) ?_ (bind (num_ev hy.1) (bind0 e1 (bind (num_ev hy.2.1) (bind0 e2 (bind0 e3 (bind (num_ev hy.2.2) (bind0 e4 (bind0 (sap_bs (by simp; omega)) ?_))))))))
      · rw [if_pos (by omega), show (⟨#[44]⟩ : ByteArray) = bs [44] from rfl, sap_bs (by simp; omega)]
        rfl
      · rw [jn_append 44 _ c] at hnext
        rw [List.append_assoc]
        exact hnext
theorem reText_ev {a : Int} {l1 : List Int} {l2 : List SRegOp} {l3 : List Int} (h : LoC a l1 l2 l3) : Ev (fun k => spec_reText.f k a l1 l2 l3) (bs (ctx a l1 l2 l3)) := by
  have k1 := dn_len h.a
  have k2 := lsd_len (sop_le h.c)
  have k3 := lsd_len (dn_le h.b)
  have k4 := lsd_len (dn_le h.d)
  have q1 := h.lb
  have q2 := h.lc
  have q3 := h.ld
  rw [List.length_map] at k2 k3 k4
  unfold spec_reText.f
  have h0 := reText_l0 l2 [] 0 rfl h.c (by simp) (by simp; omega)
  rw [List.nil_append] at h0
  refine bind h0 (bind0 (a := bs (lsd (l2.map sop))) (lsd_if (map_ne sop_ne l2)) (bind (num_ev h.a) (bind0 (sap_bs (b := [58]) (by simp; omega)) (bind (reList_ev h.b (by omega)) (bind0 (sap_bs (by simp; omega)) (bind0 (sap_bs (b := [58]) (by simp; omega)) (bind0 (sap_bs (by simp; omega)) (bind0 (sap_bs (b := [58]) (by simp; omega)) (bind (reList_ev h.d (by omega)) (bind0 (sap_bs (by simp; omega)) ?_))))))))))
  have e : dn a ++ [58] ++ lsd (l1.map dn) ++ [58] ++ lsd (l2.map sop) ++ [58] ++ lsd (l3.map dn) = ctx a l1 l2 l3 := by unfold ctx; simp
  rw [e]
  exact ret _
def cok (a : Int) (l1 : List Int) (l2 : List SRegOp) (l3 : List Int) : Bool := (codeP a l1 l2 l3).isSome
theorem cok_lo {a : Int} {l1 : List Int} {l2 : List SRegOp} {l3 : List Int} (h : cok a l1 l2 l3 = true) : LoC a l1 l2 l3 := by
  unfold cok at h
  obtain ⟨⟨s, o⟩, hc⟩ := Option.isSome_iff_exists.1 h
  obtain ⟨n, rfl, g, _⟩ := codeP_ok hc
  have r := g.reg
  have key : ∀ y, hs n y = true → 0 ≤ y ∧ y < 100 := fun y hy => by
    unfold hs at hy
    simp only [Bool.and_eq_true, decide_eq_true_eq] at hy
    omega
  exact ⟨by omega, fun y hy => key y (g.ins y hy), fun y hy => ⟨key _ (g.ops y hy).1, key _ (g.ops y hy).2.1, key _ (g.ops y hy).2.2⟩, fun y hy => key y (g.outs y hy), g.len1.2, g.len2, g.len3⟩
def ctP (a : Int) (l1 : List Int) (l2 : List SRegOp) (l3 : List Int) : ByteArray × Bool := if cok a l1 l2 l3 = true then (bs (ctx a l1 l2 l3), true) else (⟨#[]⟩, false)
theorem splC_le {b : UInt8} : ∀ {s p : List UInt8}, p ∈ spl b s → p.length ≤ s.length
  | [], p, h => by
    have e : p = [] := by simpa [spl] using h
    simp [e]
  | c :: r, p, h => by
    by_cases hc : c = b
    · subst hc
      rw [spl_hit] at h
      rcases List.mem_cons.1 h with rfl | h
      · simp
      · exact Nat.le_trans (splC_le h) (by simp)
    · rw [spl_miss hc] at h
      cases hs : spl b r with
      | nil => exact absurd hs (spl_ne b r)
      | cons x t =>
        rw [hs] at h
        rcases List.mem_cons.1 h with rfl | h
        · have := splC_le (b := b) (s := r) (p := x) (by rw [hs]; simp)
          simp
          omega
        · exact Nat.le_trans (splC_le (b := b) (s := r) (p := p) (by rw [hs]; exact List.mem_cons_of_mem _ h)) (by simp)
def prN (s : List UInt8) : List Int := if s = [45] then [] else (spl 44 s).map rdn
theorem reNum_l0 (ps : List (List UInt8)) (acc : List Int) (i : Int) (hb : acc.length + ps.length ≤ 100000000) : Ev (fun k => spec_reNumbers.l0 k (ps.map bs) acc i) (acc ++ ps.map rdn) := by
  induction ps generalizing acc i with
  | nil =>
    simp only [List.map_nil, spec_reNumbers.l0, List.append_nil]
    exact ret _
  | cons p ps ih =>
    simp only [List.length_cons] at hb
    simp only [List.map_cons, spec_reNumbers.l0]
    refine bind (read_ev p) (bind0 (ap_ok (by simp; omega)) ?_)
    have := ih (acc ++ [rdn p]) (i + 1) (by simp; omega)
    rw [List.append_assoc] at this
    exact this
theorem reNum_ev {s : List UInt8} (hs : s.length ≤ 4000000) : Ev (fun k => spec_reNumbers.f k (bs s)) (prN s) := by
  unfold spec_reNumbers.f prN
  by_cases c : s = [45]
  · subst c
    exact pos rfl (ret _)
  · rw [if_neg c]
    have h1 : Ev (fun k => spec_l1Split.f k (bs s) 44) ((spl 44 s).map bs) := split_ev s 44 hs
    have hl := spl_len 44 s
    refine neg (fun e => c (bs_inj (b := [45]) e)) (bind h1 (bind (reNum_l0 _ [] 0 (by simp; omega)) ?_))
    rw [List.nil_append]
    exact ret _
def rdo : List (List UInt8) → Option (List SRegOp)
  | [] => some []
  | w :: ws => match spl 61 w with
    | [a, r] => match spl 42 r with
      | [b, c] => (rdo ws).map fun t => ⟨rdn a, rdn b, rdn c⟩ :: t
      | _ => none
    | _ => none
theorem rdo_l0 (ws : List (List UInt8)) (acc : List SRegOp) (i : Int) (hw : ∀ w ∈ ws, w.length ≤ 4000000) (hb : acc.length + ws.length ≤ 100000000) : Ev (fun k => spec_reOps.l0 k (ws.map bs) acc i) (match rdo ws with
    | some t => Sum.inr (acc ++ t)
    | none => Sum.inl ([], false)) := by
  induction ws generalizing acc i with
  | nil =>
    simp only [List.map_nil, spec_reOps.l0, rdo, List.append_nil]
    exact ret _
  | cons w ws ih =>
    simp only [List.length_cons] at hb
    simp only [List.map_cons, spec_reOps.l0, rdo]
    have hwl := hw w (by simp)
    have h1 : Ev (fun k => spec_l1Split.f k (bs w) 61) ((spl 61 w).map bs) := split_ev w 61 hwl
    refine bind h1 ?_
    obtain ⟨L, hL⟩ : ∃ L, spl 61 w = L := ⟨_, rfl⟩
    have hle : ∀ p ∈ L, p.length ≤ w.length := fun p hp => splC_le (b := 61) (hL ▸ hp)
    rw [hL]
    rcases L with _ | ⟨a, _ | ⟨r, _ | ⟨c, t⟩⟩⟩
    · exact pos (by simp) (ret _)
    · exact pos (by simp) (ret _)
    · have hr := hle r (by simp)
      have h2 : Ev (fun k => spec_l1Split.f k (bs r) 42) ((spl 42 r).map bs) := split_ev r 42 (by omega)
      refine neg (by simp) (bind0 (a := bs r) rfl (bind h2 ?_))
      show Ev _ (match (match spl 42 r with
        | [b, c] => (rdo ws).map fun t => (⟨rdn a, rdn b, rdn c⟩ : SRegOp) :: t
        | _ => none) with
        | some t => Sum.inr (acc ++ t)
        | none => Sum.inl ([], false))
      obtain ⟨M, hM⟩ : ∃ M, spl 42 r = M := ⟨_, rfl⟩
      rw [hM]
      rcases M with _ | ⟨b, _ | ⟨c, _ | ⟨d, t⟩⟩⟩
      · exact pos (by simp) (ret _)
      · exact pos (by simp) (ret _)
      · refine neg (by simp) (bind0 (a := bs a) rfl (bind0 (a := bs b) rfl (bind0 (a := bs c) rfl (bind (read_ev a) (bind (read_ev b) (bind (read_ev c) (bind0 (ap_ok (by simp; omega)) ?_)))))))
        have := ih (acc ++ [⟨rdn a, rdn b, rdn c⟩]) (i + 1) (fun w hw' => hw w (List.mem_cons_of_mem _ hw')) (by simp; omega)
        cases hr : rdo ws with
        | none =>
          rw [hr] at this
          exact this
        | some t =>
          rw [hr] at this
          have this' : Ev _ (Sum.inr (acc ++ [⟨rdn a, rdn b, rdn c⟩] ++ t)) := this
          rw [List.append_assoc] at this'
          exact this'
      · exact pos (by simp; omega) (ret _)
    · exact pos (by simp; omega) (ret _)
def rdO (s : List UInt8) : Option (List SRegOp) := if s = [45] then some [] else rdo (spl 44 s)
theorem reOps_ev {s : List UInt8} (hs : s.length ≤ 4000000) : Ev (fun k => spec_reOps.f k (bs s)) (match rdO s with
    | some t => (t, true)
    | none => ([], false)) := by
  unfold spec_reOps.f rdO
  by_cases c : s = [45]
  · subst c
    exact pos rfl (ret _)
  · rw [if_neg c]
    have h1 : Ev (fun k => spec_l1Split.f k (bs s) 44) ((spl 44 s).map bs) := split_ev s 44 hs
    have hl := spl_len 44 s
    have h3 := rdo_l0 (spl 44 s) [] 0 (fun w hw => by have := splC_le hw; omega) (by simp; omega)
    refine neg (fun e => c (bs_inj (b := [45]) e)) (bind h1 ?_)
    cases hr : rdo (spl 44 s) with
    | none =>
      rw [hr] at h3
      exact bind h3 (ret _)
    | some t =>
      rw [hr] at h3
      replace h3 : Ev _ (Sum.inr t) := h3
      exact bind h3 (ret _)
abbrev CRes := Int × List Int × List SRegOp × List Int × Bool
def cNo : CRes := (0, [], [], [], false)
def cYes (s : List UInt8) (a : Int) (l1 : List Int) (l2 : List SRegOp) (l3 : List Int) : CRes := if cok a l1 l2 l3 = true ∧ ctx a l1 l2 l3 = s then (a, l1, l2, l3, true) else cNo
def scR (s : List UInt8) : CRes := match spl 58 s with
  | [a, b, c, d] => match rdO c with
    | some t => cYes s (rdn a) (prN b) t (prN d)
    | none => cNo
  | _ => cNo
theorem check_ev {s : List UInt8} {g : Nat → Option Bool} {f : Nat → Option ByteArray} {a : Int} {l1 : List Int} {l2 : List SRegOp} {l3 : List Int} (hg : Ev g (cok a l1 l2 l3)) (hf : cok a l1 l2 l3 = true → Ev f (bs (ctx a l1 l2 l3))) : Ev (fun k => ((g k).bind fun b => if b = true then ((f k).bind fun t => some (decide (t ≠ bs s))) else some true).bind fun b => if b = true then some cNo else some (a, l1, l2, l3, true)) (cYes s a l1 l2 l3) := by
  unfold cYes
  cases c : cok a l1 l2 l3 with
  | false =>
    rw [c] at hg
    rw [if_neg (by simp)]
    exact bind (a := true) (bind hg (neg (by simp) (ret _))) (pos rfl (ret _))
  | true =>
    rw [c] at hg
    have ht := hf c
    by_cases e : ctx a l1 l2 l3 = s
    · rw [if_pos ⟨rfl, e⟩]
      refine bind (a := false) (bind hg (pos rfl (bind ht ?_))) (neg (by simp) (ret _))
      rw [e, decide_eq_false (by simp)]
      exact ret _
    · rw [if_neg (fun q => e q.2)]
      refine bind (a := true) (bind hg (pos rfl (bind ht ?_))) (pos rfl (ret _))
      rw [show decide (bs (ctx a l1 l2 l3) ≠ bs s) = true from decide_eq_true (fun q => e (bs_inj q))]
      exact ret _
theorem scode_ev {s : List UInt8} (hs : s.length ≤ 2000000) : Ev (fun k => spec_ParseRegCode.f k (bs s)) (scR s) := by
  unfold spec_ParseRegCode.f scR
  have h1 : Ev (fun k => spec_l1Split.f k (bs s) 58) ((spl 58 s).map bs) := split_ev s 58 (by omega)
  refine bind h1 ?_
  obtain ⟨L, hL⟩ : ∃ L, spl 58 s = L := ⟨_, rfl⟩
  have hle : ∀ p ∈ L, p.length ≤ s.length := fun p hp => splC_le (b := 58) (hL ▸ hp)
  rw [hL]
  rcases L with _ | ⟨a, _ | ⟨b, _ | ⟨c, _ | ⟨d, _ | ⟨e, t⟩⟩⟩⟩⟩
  · exact pos (by simp) (ret _)
  · exact pos (by simp) (ret _)
  · exact pos (by simp) (ret _)
  · exact pos (by simp) (ret _)
  · have hb := hle b (by simp)
    have hc := hle c (by simp)
    have hd := hle d (by simp)
    have h2 := reOps_ev (s := c) (by omega)
    refine neg (by simp) (bind0 (a := bs c) rfl (bind h2 ?_))
    have h3 : Ev (fun n => (gt (List.map bs [a, b, c, d]) 0).bind fun y => (spec_l1Read.f n y).bind fun i => (gt (List.map bs [a, b, c, d]) 1).bind fun y2 => (spec_reNumbers.f n y2).bind fun l => (gt (List.map bs [a, b, c, d]) 3).bind fun y3 => (spec_reNumbers.f n y3).bind fun l2 => some (i, l, l2)) (rdn a, prN b, prN d) := bind0 (a := bs a) rfl (bind (read_ev a) (bind0 (a := bs b) rfl (bind (reNum_ev (by omega)) (bind0 (a := bs d) rfl (bind (reNum_ev (by omega)) (ret _))))))
    show Ev _ (match rdO c with
      | some t => cYes s (rdn a) (prN b) t (prN d)
      | none => cNo)
    cases hr : rdO c with
    | none => exact bind h3 (bind0 (a := true) rfl (pos rfl (ret _)))
    | some t =>
      refine bind h3 ?_
      exact check_ev (reCode_ev (rdn a) (prN b) t (prN d)) (fun h => reText_ev (cok_lo h))
  · exact pos (by simp; omega) (ret _)
/-! the program's -/
def iop (w : List UInt8) : SRegOp := ⟨ati (Lib.cut w [61]).1, ati (Lib.cut (Lib.cut w [61]).2.1 [42]).1, ati (Lib.cut (Lib.cut w [61]).2.1 [42]).2.1⟩
theorem iop_l0 (ws : List (List UInt8)) (acc : List SRegOp) (i : Int) (hw : ∀ w ∈ ws, w.length ≤ 4000000) (hb : acc.length + ws.length ≤ 1000000) : impl_ParseRegCode.l0 (ws.map bs) acc i = some (acc ++ ws.map iop) := by
  induction ws generalizing acc i with
  | nil => simp [impl_ParseRegCode.l0]
  | cons w ws ih =>
    simp only [List.length_cons] at hb
    have h1 := hw w (by simp)
    have h2 := cutL_le w [61]
    have h3 := cutL_le (Lib.cut w [61]).2.1 [42]
    simp only [List.map_cons, impl_ParseRegCode.l0]
    rw [show (⟨#[61]⟩ : ByteArray) = bs [61] from rfl, cut_eq (by omega), Option.bind_some]
    simp only []
    rw [show (⟨#[42]⟩ : ByteArray) = bs [42] from rfl, cut_eq (by omega), Option.bind_some]
    simp only []
    rw [numberOf_eq (by omega), Option.bind_some, numberOf_eq (by omega), Option.bind_some, numberOf_eq (by omega), Option.bind_some, ap_ok (by simp; omega), Option.bind_some, ih _ _ (fun q hq => hw q (List.mem_cons_of_mem _ hq)) (by simp; omega)]
    simp [iop]
def icR (s : List UInt8) : CRes := match spn 58 5 s with
  | [a, b, c, d] => cYes s (ati a) ((prt 6 b).map ati) ((prt 40 c).map iop) ((prt 6 d).map ati)
  | _ => cNo
theorem icode_ev {s : List UInt8} (hs : s.length ≤ 2000000) : Ev (fun k => impl_ParseRegCode.f k (bs s)) (icR s) := by
  unfold impl_ParseRegCode.f icR
  refine bind0 (splitN_eq (s := s) (b := 58) (n := 5) (by omega) (by omega)) ?_
  obtain ⟨L, hL⟩ : ∃ L, spn 58 5 s = L := ⟨_, rfl⟩
  have hle : ∀ p ∈ L, p.length ≤ s.length := fun p hp => (spn_le 58 5 (by omega) s).2 p (hL ▸ hp)
  rw [hL]
  rcases L with _ | ⟨a, _ | ⟨b, _ | ⟨c, _ | ⟨d, _ | ⟨e, t⟩⟩⟩⟩⟩
  · exact pos (by simp) (ret _)
  · exact pos (by simp) (ret _)
  · exact pos (by simp) (ret _)
  · exact pos (by simp) (ret _)
  · have ha := hle a (by simp)
    have hb := hle b (by simp)
    have hc := hle c (by simp)
    have hd := hle d (by simp)
    have pb := prt_le 6 b
    have pc := prt_le 40 c
    have pd := prt_le 6 d
    refine neg (by simp) (bind0 (a := (ati a, (prt 6 b).map ati, (prt 6 d).map ati)) ?_ (bind0 (a := bs c) rfl (bind0 (parts_eq (n := 40) (by omega) (by omega)) (bind0 (iop_l0 _ [] 0 (fun w hw => by have := pc.2 w hw; omega) (by simp; omega)) ?_))))
    · rw [show gt (List.map bs [a, b, c, d]) 0 = some (bs a) from rfl, Option.bind_some, numberOf_eq (by omega), Option.bind_some, show gt (List.map bs [a, b, c, d]) 1 = some (bs b) from rfl, Option.bind_some, show (6 : Int) = ((6 : Nat) : Int) from rfl, parts_eq (by omega) (by omega), Option.bind_some, numbers_eq (fun p hp => by have := pb.2 p hp; omega) (by omega), Option.bind_some, show gt (List.map bs [a, b, c, d]) 3 = some (bs d) from rfl, Option.bind_some, parts_eq (by omega) (by omega), Option.bind_some, numbers_eq (fun p hp => by have := pd.2 p hp; omega) (by omega)]
      rfl
    · rw [List.nil_append]
      exact check_ev (isRegCode_ev _ _ _ _) (fun h => now (ctext_eq (cok_lo h)))
  · exact pos (by simp; omega) (ret _)
/-! both read what is written -/
theorem c58 : dig 58 = false := by decide
theorem c44 : dig 44 = false := by decide
theorem c42 : dig 42 = false := by decide
theorem c45 : dig 45 = false := by decide
theorem c61 : dig 61 = false := by decide
theorem mapC_dn {o : List Int} {c : UInt8} (h : dig c = false) : ∀ p ∈ o.map dn, c ∉ p := fun p hp => by
  obtain ⟨y, _, rfl⟩ := List.mem_map.1 hp
  exact dn_not h y
theorem sop_not {c : UInt8} (h : dig c = false) (h' : c ≠ 42) (h2 : c ≠ 61) (y : SRegOp) : c ∉ sop y := by
  unfold sop
  intro hm
  rcases List.mem_append.1 hm with hm | hm
  · exact dn_not h _ hm
  · rcases List.mem_cons.1 hm with hm | hm
    · exact h2 hm
    · rcases List.mem_append.1 hm with hm | hm
      · exact dn_not h _ hm
      · rcases List.mem_cons.1 hm with hm | hm
        · exact h' hm
        · exact dn_not h _ hm
theorem map_sop {s : List SRegOp} {c : UInt8} (h : dig c = false) (h' : c ≠ 42) (h2 : c ≠ 61) : ∀ p ∈ s.map sop, c ∉ p := fun p hp => by
  obtain ⟨y, _, rfl⟩ := List.mem_map.1 hp
  exact sop_not h h' h2 y
theorem spl_ctx (a : Int) (l1 : List Int) (l2 : List SRegOp) (l3 : List Int) : spl 58 (ctx a l1 l2 l3) = [dn a, lsd (l1.map dn), lsd (l2.map sop), lsd (l3.map dn)] := by
  unfold ctx
  rw [spl_cut _ (dn_not c58 a), spl_cut _ (not_lsd (by decide) (by decide) (mapC_dn c58)), spl_cut _ (not_lsd (by decide) (by decide) (map_sop c58 (by decide) (by decide))), spl_one (not_lsd (by decide) (by decide) (mapC_dn c58))]
theorem mapC_id {α β : Type} {f : α → β} {g : β → α} {l : List α} (h : ∀ x ∈ l, g (f x) = x) : (l.map f).map g = l := by
  rw [List.map_map]
  conv => rhs; rw [← List.map_id l]
  exact List.map_congr_left h
theorem not61 (y : SRegOp) : 61 ∉ dn y.f1 ++ 42 :: dn y.f2 := fun hm => by
  rcases List.mem_append.1 hm with hm | hm
  · exact dn_not c61 _ hm
  · rcases List.mem_cons.1 hm with hm | hm
    · exact absurd hm (by decide)
    · exact dn_not c61 _ hm
theorem rdo_sop {s : List SRegOp} (h : LoO s) : rdo (s.map sop) = some s := by
  induction s with
  | nil => rfl
  | cons y ys ih =>
    have hy := h y (by simp)
    have e1 : spl 61 (sop y) = [dn y.f0, dn y.f1 ++ 42 :: dn y.f2] := by
      unfold sop
      rw [spl_cut _ (dn_not c61 _), spl_one (not61 y)]
    have e2 : spl 42 (dn y.f1 ++ 42 :: dn y.f2) = [dn y.f1, dn y.f2] := by rw [spl_cut _ (dn_not c42 _), spl_one (dn_not c42 _)]
    simp only [List.map_cons, rdo]
    rw [e1]
    simp only []
    rw [e2]
    simp only []
    rw [ih (fun z hz => h z (List.mem_cons_of_mem _ hz)), rdn_dn (by omega), rdn_dn (by omega), rdn_dn (by omega)]
    rfl
theorem rdO_lsd {s : List SRegOp} (h : LoO s) : rdO (lsd (s.map sop)) = some s := by
  obtain ⟨h1, h2⟩ := lsd_minus (map_sop (s := s) c45 (by decide) (by decide)) (map_sop (s := s) c44 (by decide) (by decide))
  unfold rdO
  by_cases c : s = []
  · subst c
    rfl
  · have c' : s.map sop ≠ [] := by simpa using c
    rw [if_neg (fun e => c' (h1.1 e)), h2 c', rdo_sop h]
theorem prN_dn {o : List Int} (h : ∀ y ∈ o, 0 ≤ y ∧ y < 100) : prN (lsd (o.map dn)) = o := by
  obtain ⟨h1, h2⟩ := lsd_minus (mapC_dn (o := o) c45) (mapC_dn (o := o) c44)
  unfold prN
  by_cases c : o = []
  · subst c
    rfl
  · have c' : o.map dn ≠ [] := by simpa using c
    rw [if_neg (fun e => c' (h1.1 e)), h2 c']
    exact mapC_id fun y hy => rdn_dn (by have := h y hy; omega)
theorem iop_sop {y : SRegOp} (h : (0 ≤ y.f0 ∧ y.f0 < 100) ∧ (0 ≤ y.f1 ∧ y.f1 < 100) ∧ (0 ≤ y.f2 ∧ y.f2 < 100)) : iop (sop y) = y := by
  have e1 : Lib.cut (sop y) [61] = (dn y.f0, dn y.f1 ++ 42 :: dn y.f2, true) := cut_hit (dn_not c61 _)
  unfold iop
  rw [e1]
  show (⟨_, _, _⟩ : SRegOp) = _
  rw [show Lib.cut (dn y.f1 ++ 42 :: dn y.f2) [42] = (dn y.f1, dn y.f2, true) from cut_hit (dn_not c42 _)]
  show (⟨ati (dn y.f0), ati (dn y.f1), ati (dn y.f2)⟩ : SRegOp) = _
  rw [ati_dn (by omega), ati_dn (by omega), ati_dn (by omega)]
theorem prtC_lsd {n : Nat} {ps : List (List UInt8)} (h45 : ∀ p ∈ ps, 45 ∉ p) (h44 : ∀ p ∈ ps, 44 ∉ p) (hl : ps.length ≤ n + 1) : prt n (lsd ps) = ps := by
  obtain ⟨h1, h2⟩ := lsd_minus h45 h44
  unfold prt
  by_cases c : ps = []
  · subst c
    rfl
  · rw [if_neg (fun e => c (h1.1 e)), spn_spl (by rw [h2 c]; omega) (by omega), h2 c]
theorem scR_ctx {a : Int} {l1 : List Int} {l2 : List SRegOp} {l3 : List Int} (h : cok a l1 l2 l3 = true) : scR (ctx a l1 l2 l3) = (a, l1, l2, l3, true) := by
  have g := cok_lo h
  unfold scR
  rw [spl_ctx]
  show (match rdO (lsd (l2.map sop)) with
    | some t => cYes _ (rdn (dn a)) (prN (lsd (l1.map dn))) t (prN (lsd (l3.map dn)))
    | none => cNo) = _
  have ga := g.a
  rw [rdO_lsd g.c, prN_dn g.b, prN_dn g.d, rdn_dn (by omega)]
  show cYes _ _ _ _ _ = _
  unfold cYes
  rw [if_pos ⟨h, rfl⟩]
theorem icR_ctx {a : Int} {l1 : List Int} {l2 : List SRegOp} {l3 : List Int} (h : cok a l1 l2 l3 = true) : icR (ctx a l1 l2 l3) = (a, l1, l2, l3, true) := by
  have g := cok_lo h
  have q1 := g.lb
  have q2 := g.lc
  have q3 := g.ld
  have ga := g.a
  unfold icR
  rw [spn_spl (by rw [spl_ctx]; simp) (by omega), spl_ctx]
  show cYes _ _ _ _ _ = _
  rw [prtC_lsd (mapC_dn c45) (mapC_dn c44) (by simp; omega), prtC_lsd (map_sop c45 (by decide) (by decide)) (map_sop c44 (by decide) (by decide)) (by simp; omega), prtC_lsd (mapC_dn c45) (mapC_dn c44) (by simp; omega), ati_dn (by omega), mapC_id fun y hy => iop_sop (g.c y hy), mapC_id fun y hy => ati_dn (by have := g.b y hy; omega), mapC_id fun y hy => ati_dn (by have := g.d y hy; omega)]
  unfold cYes
  rw [if_pos ⟨h, rfl⟩]
theorem cYes_cases (s : List UInt8) (a : Int) (l1 : List Int) (l2 : List SRegOp) (l3 : List Int) : (cok a l1 l2 l3 = true ∧ ctx a l1 l2 l3 = s ∧ cYes s a l1 l2 l3 = (a, l1, l2, l3, true)) ∨ cYes s a l1 l2 l3 = cNo := by
  unfold cYes
  split
  · rename_i h
    exact .inl ⟨h.1, h.2, rfl⟩
  · exact .inr rfl
theorem scR_cases (s : List UInt8) : (∃ a l1 l2 l3, cok a l1 l2 l3 = true ∧ ctx a l1 l2 l3 = s ∧ scR s = (a, l1, l2, l3, true)) ∨ scR s = cNo := by
  unfold scR
  split
  · split
    · rename_i t _
      rcases cYes_cases s _ _ t _ with ⟨h1, h2, h3⟩ | h
      · exact .inl ⟨_, _, _, _, h1, h2, h3⟩
      · exact .inr h
    · exact .inr rfl
  · exact .inr rfl
theorem icR_cases (s : List UInt8) : (∃ a l1 l2 l3, cok a l1 l2 l3 = true ∧ ctx a l1 l2 l3 = s ∧ icR s = (a, l1, l2, l3, true)) ∨ icR s = cNo := by
  unfold icR
  split
  · rcases cYes_cases s _ _ _ _ with ⟨h1, h2, h3⟩ | h
    · exact .inl ⟨_, _, _, _, h1, h2, h3⟩
    · exact .inr h
  · exact .inr rfl
theorem ic_sc (s : List UInt8) : icR s = scR s := by
  rcases scR_cases s with ⟨a, l1, l2, l3, h1, h2, h3⟩ | h
  · rw [h3, ← h2, icR_ctx h1]
  · rcases icR_cases s with ⟨a, l1, l2, l3, h1, h2, h3⟩ | h'
    · rw [h3, ← h2, scR_ctx h1]
    · rw [h, h']
theorem scR_len (s : List UInt8) : (scR s).2.1.length ≤ 1000 ∧ (scR s).2.2.1.length ≤ 1000 ∧ (scR s).2.2.2.1.length ≤ 1000 := by
  rcases scR_cases s with ⟨a, l1, l2, l3, h1, h2, h3⟩ | h
  · have g := cok_lo h1
    have q1 := g.lb
    have q2 := g.lc
    have q3 := g.ld
    rw [h3]
    exact ⟨by show l1.length ≤ 1000; omega, by show l2.length ≤ 1000; omega, by show l3.length ≤ 1000; omega⟩
  · rw [h]
    simp [cNo]
end Go.Proofs.YtnnlfipcoahcnaaGreatDoor.Pure
