/- Pure: texts of register code, written and read, as the program and as the documentation have them. -/
import Derived.Test.YtnnlfipcoahcnaaDoorKFnExactRegCodeTextPtr
import Derived.Test.YtnnlfipcoahcnaaDoorKFnExactRegCodeTextPcf
set_option linter.unusedVariables false
set_option linter.unusedSimpArgs false
namespace Go.Proofs.YtnnlfipcoahcnaaDoor.Pure
open Go.RowKit Go.Proofs.YtnnlfipcoahcnaaDoor.E Go.Proofs.YtnnlfipcoahcnaaDoor.P3 Go.Proofs.YtnnlfipcoahcnaaDoor.Hand Go.Proofs.YtnnlfipcoahcnaaDoor.Frame Go.Proofs.YtnnlfipcoahcnaaDoorW.PrintLast Go.Proofs.YtnnlfipcoahcnaaDoorW.PrintMore Go.Lib Go.Proofs.YtnnlfipcoahcnaaDoor.Txl
open Go.Proofs.YtnnlfipcoahcnaaDoorW.PrintWords hiding mn mx
def sop (y : SRegOp) : List UInt8 := dn y.f0 ++ 61 :: (dn y.f1 ++ 42 :: dn y.f2)
def LoO (s : List SRegOp) : Prop := ∀ y ∈ s, (0 ≤ y.f0 ∧ y.f0 < 100) ∧ (0 ≤ y.f1 ∧ y.f1 < 100) ∧ (0 ≤ y.f2 ∧ y.f2 < 100)
theorem sop_len {y : SRegOp} (h : (0 ≤ y.f0 ∧ y.f0 < 100) ∧ (0 ≤ y.f1 ∧ y.f1 < 100) ∧ (0 ≤ y.f2 ∧ y.f2 < 100)) : (sop y).length ≤ 8 := by
  have h1 := dn_len h.1
  have h2 := dn_len h.2.1
  have h3 := dn_len h.2.2
  unfold sop
  rw [List.length_append, List.length_cons, List.length_append, List.length_cons]
  omega
theorem sop_le {s : List SRegOp} (h : LoO s) : ∀ p ∈ s.map sop, p.length ≤ 8 := fun p hp => by
  obtain ⟨y, hy, rfl⟩ := List.mem_map.1 hp
  exact sop_len (h y hy)
theorem otext_l0 (s : List SRegOp) (acc : List ByteArray) (i : Int) (h : LoO s) (hb : acc.length + s.length ≤ 100000) : impl_RegCode_text.l0 s acc i = some (acc ++ (s.map sop).map bs) := by
  induction s generalizing acc i with
  | nil => simp [impl_RegCode_text.l0]
  | cons y ys ih =>
    have hy := h y (by simp)
    have l0 := dn_len hy.1
    have l1 := dn_len hy.2.1
    have l2 := dn_len hy.2.2
    simp only [List.length_cons] at hb
    simp only [impl_RegCode_text.l0]
    rw [itoa_eq hy.1, Option.bind_some, show (⟨#[61]⟩ : ByteArray) = bs [61] from rfl, sap_bs (by simp; omega), Option.bind_some, itoa_eq hy.2.1, Option.bind_some, sap_bs (by simp; omega), Option.bind_some, show (⟨#[42]⟩ : ByteArray) = bs [42] from rfl, sap_bs (by simp; omega), Option.bind_some, itoa_eq hy.2.2, Option.bind_some, sap_bs (by simp; omega), Option.bind_some, ap_ok (by simp; omega), Option.bind_some, ih _ _ (fun z hz => h z (List.mem_cons_of_mem _ hz)) (by simp; omega)]
    simp [sop]
/-- the text of code -/
def ctx (a : Int) (l1 : List Int) (l2 : List SRegOp) (l3 : List Int) : List UInt8 := dn a ++ 58 :: (lsd (l1.map dn) ++ 58 :: (lsd (l2.map sop) ++ 58 :: lsd (l3.map dn)))
structure LoC (a : Int) (l1 : List Int) (l2 : List SRegOp) (l3 : List Int) : Prop where
  a : 0 ≤ a ∧ a < 100
  b : ∀ y ∈ l1, 0 ≤ y ∧ y < 100
  c : LoO l2
  d : ∀ y ∈ l3, 0 ≤ y ∧ y < 100
  lb : l1.length ≤ 6
  lc : l2.length ≤ 40
  ld : l3.length ≤ 6
theorem ctext_eq {a : Int} {l1 : List Int} {l2 : List SRegOp} {l3 : List Int} (h : LoC a l1 l2 l3) : impl_RegCode_text.f a l1 l2 l3 = some (bs (ctx a l1 l2 l3)) := by
  have k1 := dn_len h.a
  have k2 := lsd_len (sop_le h.c)
  have k3 := lsd_len (dn_le h.b)
  have k4 := lsd_len (dn_le h.d)
  have q1 := h.lb
  have q2 := h.lc
  have q3 := h.ld
  rw [List.length_map] at k2 k3 k4
  unfold impl_RegCode_text.f
  rw [otext_l0 l2 [] 0 h.c (by simp; omega), Option.bind_some, List.nil_append, itoa_eq h.a, Option.bind_some, ntext_eq h.b (by omega), Option.bind_some, listed_eq (fun p hp => Nat.le_trans (sop_le h.c p hp) (by omega)) (by rw [List.length_map]; omega), Option.bind_some, ntext_eq h.d (by omega), Option.bind_some]
  have e : ([bs (dn a), bs (lsd (l1.map dn)), bs (lsd (l2.map sop)), bs (lsd (l3.map dn))] : List ByteArray) = ([dn a, lsd (l1.map dn), lsd (l2.map sop), lsd (l3.map dn)] : List (List UInt8)).map bs := rfl
  rw [e]
  have e2 : strings_Join.f (([dn a, lsd (l1.map dn), lsd (l2.map sop), lsd (l3.map dn)] : List (List UInt8)).map bs) (⟨#[58]⟩ : ByteArray) = some (bs (ctx a l1 l2 l3)) := by
    unfold strings_Join.f
    rw [map_bs]
    have e1 : Lib.join [dn a, lsd (l1.map dn), lsd (l2.map sop), lsd (l3.map dn)] ((⟨#[58]⟩ : ByteArray).data.toList) = jn 58 [dn a, lsd (l1.map dn), lsd (l2.map sop), lsd (l3.map dn)] := jn_join 58 _
    have e3 : jn 58 [dn a, lsd (l1.map dn), lsd (l2.map sop), lsd (l3.map dn)] = ctx a l1 l2 l3 := rfl
    rw [e1, e3, if_pos]
    · rfl
    · constructor
      · simp
      · unfold ctx
        simp only [List.length_append, List.length_cons]
        omega
  rw [e2]
  rfl
theorem reList_l0 (l : List Int) (ds : List (List UInt8)) (i : Int) (hi : i = (ds.length : Int)) (h : ∀ y ∈ l, 0 ≤ y ∧ y < 100) (hd : ∀ p ∈ ds, p.length ≤ 100) (hb : ds.length + l.length ≤ 2000) : Ev (fun k => spec_reList.l0 k l (bs (jn 44 ds)) i) (bs (jn 44 (ds ++ l.map dn))) := by
  induction l generalizing ds i with
  | nil =>
    simp only [spec_reList.l0, List.map_nil, List.append_nil]
    exact ret _
  | cons y ys ih =>
    have hy := h y (by simp)
    have l0 := dn_len hy
    have hj := jn_len 44 100 ds hd
    simp only [List.length_cons] at hb
    have hj2 : ds.length * (100 + 1) ≤ 2000 * 101 := Nat.mul_le_mul_right _ (by omega)
    have hnext := ih (ds ++ [dn y]) (i + 1) (by simp; omega) (fun z hz => h z (List.mem_cons_of_mem _ hz)) (fun p hp => by
      rcases List.mem_append.1 hp with hp | hp
      · exact hd p hp
      · rw [List.mem_singleton.1 hp]; omega) (by simp; omega)
    rw [List.append_assoc] at hnext
    simp only [spec_reList.l0]
    by_cases c : ds = []
    · subst c
      refine bind0 (if_neg (by rw [hi]; simp)) (bind (num_ev hy) (bind0 (sap_bs (by simp [jn]; omega)) ?_))
      exact hnext
    · have hp : 0 < ds.length := List.length_pos_iff.2 c
      refine bind0 (a := bs (jn 44 ds ++ [44])) ?_ (bind (num_ev hy) (bind0 (sap_bs (by simp; omega)) ?_))
      · rw [if_pos (by omega), show (⟨#[44]⟩ : ByteArray) = bs [44] from rfl, sap_bs (by simp; omega)]
        rfl
      · rw [jn_append 44 _ c] at hnext
        rw [List.append_assoc]
        exact hnext
theorem lsd_if {ps : List (List UInt8)} (hp : ∀ p ∈ ps, p ≠ []) : (if bs (jn 44 ps) = (⟨#[]⟩ : ByteArray) then (some (⟨#[45]⟩ : ByteArray)) else some (bs (jn 44 ps))) = some (bs (lsd ps)) := by
  unfold lsd
  by_cases c : ps = []
  · subst c
    rfl
  · rw [if_neg c, if_neg (c := bs (jn 44 ps) = (⟨#[]⟩ : ByteArray)) (fun e => jn_ne (b := 44) c hp (bs_inj (b := []) e))]
theorem dn_ne (n : Int) : dn n ≠ [] := dec_ne _
theorem sop_ne (y : SRegOp) : sop y ≠ [] := by unfold sop; simp
theorem map_ne {α : Type} {f : α → List UInt8} (h : ∀ x, f x ≠ []) (l : List α) : ∀ p ∈ l.map f, p ≠ [] := fun p hp => by
  obtain ⟨y, _, rfl⟩ := List.mem_map.1 hp
  exact h y
theorem reList_ev {l : List Int} (h : ∀ y ∈ l, 0 ≤ y ∧ y < 100) (hl : l.length ≤ 1000) : Ev (fun k => spec_reList.f k l) (bs (lsd (l.map dn))) := by
  unfold spec_reList.f
  have := reList_l0 l [] 0 rfl h (by simp) (by simp; omega)
  rw [List.nil_append] at this
  refine bind this (now ?_)
  exact lsd_if (map_ne dn_ne l)
theorem reText_l0 (l : List SRegOp) (ds : List (List UInt8)) (i : Int) (hi : i = (ds.length : Int)) (h : LoO l) (hd : ∀ p ∈ ds, p.length ≤ 100) (hb : ds.length + l.length ≤ 2000) : Ev (fun k => spec_reText.l0 k l (bs (jn 44 ds)) i) (bs (jn 44 (ds ++ l.map sop))) := by
  induction l generalizing ds i with
  | nil =>
    simp only [spec_reText.l0, List.map_nil, List.append_nil]
    exact ret _
  | cons y ys ih =>
    have hy := h y (by simp)
    have l0 := dn_len hy.1
    have l1 := dn_len hy.2.1
    have l2 := dn_len hy.2.2
    have hj := jn_len 44 100 ds hd
    simp only [List.length_cons] at hb
    have hj2 : ds.length * (100 + 1) ≤ 2000 * 101 := Nat.mul_le_mul_right _ (by omega)
    have hst := sop_len hy
    have hnext := ih (ds ++ [sop y]) (i + 1) (by simp; omega) (fun z hz => h z (List.mem_cons_of_mem _ hz)) (fun p hp => by
      rcases List.mem_append.1 hp with hp | hp
      · exact hd p hp
      · rw [List.mem_singleton.1 hp]; omega) (by simp; omega)
    rw [List.append_assoc] at hnext
    simp only [spec_reText.l0]
    have e1 : sap (bs (dn y.f0)) (⟨#[61]⟩ : ByteArray) = some (bs (dn y.f0 ++ [61])) := sap_bs (b := [61]) (by simp; omega)
    have e2 : sap (bs (dn y.f0 ++ [61])) (bs (dn y.f1)) = some (bs (dn y.f0 ++ [61] ++ dn y.f1)) := sap_bs (by simp; omega)
    have e3 : sap (bs (dn y.f0 ++ [61] ++ dn y.f1)) (⟨#[42]⟩ : ByteArray) = some (bs (dn y.f0 ++ [61] ++ dn y.f1 ++ [42])) := sap_bs (b := [42]) (by simp; omega)
    have e4 : sap (bs (dn y.f0 ++ [61] ++ dn y.f1 ++ [42])) (bs (dn y.f2)) = some (bs (sop y)) := by
      rw [sap_bs (by simp; omega)]
      unfold sop
      simp
    by_cases c : ds = []
    · subst c
      refine bind0 (if_neg (by rw [hi]; simp)) (bind (num_ev hy.1) (bind0 e1 (bind (num_ev hy.2.1) (bind0 e2 (bind0 e3 (bind (num_ev hy.2.2) (bind0 e4 (bind0 (sap_bs (by simp [jn]; omega)) ?_))))))))
      exact hnext
    · have hp : 0 < ds.length := List.length_pos_iff.2 c
      refine bind0 (a := bs (jn 44 ds ++ [44])) ?_ (bind (num_ev hy.1) (bind0 e1 (bind (num_ev hy.2.1) (bind0 e2 (bind0 e3 (bind (num_ev hy.2.2) (bind0 e4 (bind0 (sap_bs (by simp; omega)) ?_))))))))
      · rw [if_pos (by omega), show (⟨#[44]⟩ : ByteArray) = bs [44] from rfl, sap_bs (by simp; omega)]
        rfl
      · rw [jn_append 44 _ c] at hnext
        rw [List.append_assoc]
        exact hnext
theorem reText_ev {a : Int} {l1 : List Int} {l2 : List SRegOp} {l3 : List Int} (h : LoC a l1 l2 l3) : Ev (fun k => spec_reText.f k a l1 l2 l3) (bs (ctx a l1 l2 l3)) := by
  have k1 := dn_len h.a
  have k2 := lsd_len (sop_le h.c)
  have k3 := lsd_len (dn_le h.b)
  have k4 := lsd_len (dn_le h.d)
  have q1 := h.lb
  have q2 := h.lc
  have q3 := h.ld
  rw [List.length_map] at k2 k3 k4
  unfold spec_reText.f
  have h0 := reText_l0 l2 [] 0 rfl h.c (by simp) (by simp; omega)
  rw [List.nil_append] at h0
  refine bind h0 (bind0 (a := bs (lsd (l2.map sop))) (lsd_if (map_ne sop_ne l2)) (bind (num_ev h.a) (bind0 (sap_bs (b := [58]) (by simp; omega)) (bind (reList_ev h.b (by omega)) (bind0 (sap_bs (by simp; omega)) (bind0 (sap_bs (b := [58]) (by simp; omega)) (bind0 (sap_bs (by simp; omega)) (bind0 (sap_bs (b := [58]) (by simp; omega)) (bind (reList_ev h.d (by omega)) (bind0 (sap_bs (by simp; omega)) ?_))))))))))
  have e : dn a ++ [58] ++ lsd (l1.map dn) ++ [58] ++ lsd (l2.map sop) ++ [58] ++ lsd (l3.map dn) = ctx a l1 l2 l3 := by unfold ctx; simp
  rw [e]
  exact ret _
def cok (a : Int) (l1 : List Int) (l2 : List SRegOp) (l3 : List Int) : Bool := (codeP a l1 l2 l3).isSome
theorem cok_lo {a : Int} {l1 : List Int} {l2 : List SRegOp} {l3 : List Int} (h : cok a l1 l2 l3 = true) : LoC a l1 l2 l3 := by
  unfold cok at h
  obtain ⟨⟨s, o⟩, hc⟩ := Option.isSome_iff_exists.1 h
  obtain ⟨n, rfl, g, _⟩ := codeP_ok hc
  have r := g.reg
  have key : ∀ y, hs n y = true → 0 ≤ y ∧ y < 100 := fun y hy => by
    unfold hs at hy
    simp only [Bool.and_eq_true, decide_eq_true_eq] at hy
    omega
  exact ⟨by omega, fun y hy => key y (g.ins y hy), fun y hy => ⟨key _ (g.ops y hy).1, key _ (g.ops y hy).2.1, key _ (g.ops y hy).2.2⟩, fun y hy => key y (g.outs y hy), g.len1.2, g.len2, g.len3⟩
def ctP (a : Int) (l1 : List Int) (l2 : List SRegOp) (l3 : List Int) : ByteArray × Bool := if cok a l1 l2 l3 = true then (bs (ctx a l1 l2 l3), true) else (⟨#[]⟩, false)
theorem iCodeText_ev (a : Int) (l1 : List Int) (l2 : List SRegOp) (l3 : List Int) : Ev (fun k => impl_RegCodeText.f k a l1 l2 l3) (ctP a l1 l2 l3) := by
  unfold impl_RegCodeText.f ctP
  refine bind (isRegCode_ev a l1 l2 l3) ?_
  show Ev (fun n => if cok a l1 l2 l3 = true then _ else _) _
  cases c : cok a l1 l2 l3 with
  | false => exact neg (by simp) (ret _)
  | true => exact pos rfl (bind0 (ctext_eq (cok_lo c)) (ret _))
theorem sCodeText_ev (a : Int) (l1 : List Int) (l2 : List SRegOp) (l3 : List Int) : Ev (fun k => spec_RegCodeText.f k a l1 l2 l3) (ctP a l1 l2 l3) := by
  unfold spec_RegCodeText.f ctP
  refine bind (reCode_ev a l1 l2 l3) ?_
  show Ev (fun n => if cok a l1 l2 l3 = true then _ else _) _
  cases c : cok a l1 l2 l3 with
  | false => exact neg (by simp) (ret _)
  | true => exact pos rfl (bind (reText_ev (cok_lo c)) (ret _))
end Go.Proofs.YtnnlfipcoahcnaaDoor.Pure
