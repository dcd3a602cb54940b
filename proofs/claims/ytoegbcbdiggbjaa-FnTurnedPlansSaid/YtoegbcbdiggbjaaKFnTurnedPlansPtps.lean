/- Pure: what the turned plan's values are: plans turned round exchange inputs and outputs. -/
import Derived.Test.YtoegbcbdiggbjaaKFnTurnedPlansPtrim
import Derived.Test.YtoegbcbdiggbjaaKFnTurnedPlansPturn
set_option linter.unusedVariables false
set_option linter.unusedSimpArgs false
namespace Go.Proofs.Ytoegbcbdiggbjaa.Pure
open Go.RowKit Go.Proofs.Ytoegbcbdiggbjaa.E Go.Proofs.Ytoegbcbdiggbjaa.TU Go.Proofs.Ytoegbcbdiggbjaa.Frame Go.Proofs.YtoegbcbdiggbjaaW.PrintLast Go.Proofs.YtoegbcbdiggbjaaW.PrintMore
open Go.Proofs.YtoegbcbdiggbjaaW.PrintWords hiding mn mx
/-! ### sums -/
def sm (f : Int → Int) : List Int → Int
  | [] => 0
  | v :: vs => f v + sm f vs
def sN (f : Nat → Int) : Nat → Int
  | 0 => 0
  | n + 1 => sN f n + f n
theorem sm_app (f : Int → Int) (l m : List Int) : sm f (l ++ m) = sm f l + sm f m := by
  induction l with
  | nil => simp [sm]
  | cons a l ih => simp only [List.cons_append, sm, ih]; omega
theorem sm_congr {f g : Int → Int} {l : List Int} (h : ∀ v ∈ l, f v = g v) : sm f l = sm g l := by
  induction l with
  | nil => rfl
  | cons a l ih =>
    simp only [sm]
    rw [h a List.mem_cons_self, ih fun v hv => h v (List.mem_cons_of_mem _ hv)]
theorem sN_congr {f g : Nat → Int} {n : Nat} (h : ∀ v, v < n → f v = g v) : sN f n = sN g n := by
  induction n with
  | zero => rfl
  | succ n ih =>
    simp only [sN]
    rw [h n (by omega), ih fun v hv => h v (by omega)]
theorem sN_add (f g : Nat → Int) (n : Nat) : sN (fun v => f v + g v) n = sN f n + sN g n := by
  induction n with
  | zero => rfl
  | succ n ih => simp only [sN, ih]; omega
theorem sN_zero (n : Nat) : sN (fun _ => 0) n = 0 := by
  induction n with
  | zero => rfl
  | succ n ih => simp only [sN, ih]; omega
/-- A sum with one part that is not 0. -/
theorem sN_one (f : Nat → Int) (n : Nat) (v : Int) (h0 : 0 ≤ v) (h1 : v < (n : Int)) : sN (fun u => if v = (u : Int) then f u else 0) n = f v.toNat := by
  induction n with
  | zero => omega
  | succ n ih =>
    simp only [sN]
    by_cases c : v = (n : Int)
    · subst c
      rw [if_pos rfl, sN_congr (g := fun _ => 0) (fun u hu => if_neg (by omega)), sN_zero, Int.toNat_natCast]
      omega
    · rw [if_neg c, ih (by omega)]
      omega
theorem mul_if (a b : Int) (p : Prop) [Decidable p] : a * (if p then b else 0) = if p then a * b else 0 := by
  split
  · rfl
  · simp
theorem sN_split (f : Nat → Int) (n m : Nat) : sN f (n + m) = sN f n + sN (fun j => f (n + j)) m := by
  induction m with
  | zero => simp [sN]
  | succ m ih => rw [← Nat.add_assoc]; simp only [sN, ih]; omega
/-! ### transposing -/
/-- What outputs give to a value: inputs of the turned plan, numbered from j on. -/
def so (x : Int → Int) (v : Int) : List Int → Int → Int
  | [], _ => 0
  | y :: ys, j => (if y = v then x j else 0) + so x v ys (j + 1)
/-- What steps give to a value. -/
def sq (b : Int → Int) (v : Int) : List SStep → Int → Int
  | [], _ => 0
  | y :: ys, j => ((if y.f0 = v then b j else 0) + (if y.f1 = v then b j else 0)) + sq b v ys (j + 1)
theorem sm_fo (x : Int → Int) (v : Int) (o : List Int) (j : Int) : sm x (fo v o j) = so x v o j := by
  induction o generalizing j with
  | nil => rfl
  | cons y ys ih =>
    simp only [fo, so, sm_app, ih]
    split <;> simp [sm]
theorem sm_fst (b : Int → Int) (I v : Int) (bl : List Int) (s : List SStep) (j : Int) : sm b (fst_ I v bl s j) = sq (fun u => b (rg bl u)) v s (I + j) := by
  induction s generalizing j with
  | nil => rfl
  | cons y ys ih =>
    simp only [fst_, f3, sq, sm_app, ih]
    rw [show I + (j + 1) = I + j + 1 by omega]
    split <;> split <;> simp [sm]
theorem sN_so (f : Nat → Int) (x : Int → Int) (n : Nat) (o : List Int) (j : Int) (h : ∀ v ∈ o, 0 ≤ v ∧ v < (n : Int)) : sN (fun v => f v * so x (v : Int) o j) n = sN (fun i => x (j + (i : Int)) * f (o.getD i 0).toNat) o.length := by
  induction o generalizing j with
  | nil =>
    simp only [so, Int.mul_zero, List.length_nil, sN]
    exact sN_zero n
  | cons y ys ih =>
    have hy := h y List.mem_cons_self
    have := ih (j + 1) fun v hv => h v (List.mem_cons_of_mem _ hv)
    simp only [so, Int.mul_add]
    rw [sN_add, this]
    simp only [mul_if]
    rw [sN_one (fun u => f u * x j) n y hy.1 hy.2, List.length_cons, Nat.add_comm ys.length 1, sN_split]
    simp only [sN, Int.natCast_zero, Int.add_zero, List.getD_cons_zero, Int.zero_add]
    rw [Int.mul_comm (f y.toNat) (x j)]
    have e : sN (fun i => x (j + 1 + (i : Int)) * f (ys.getD i 0).toNat) ys.length = sN (fun i => x (j + ((1 + i : Nat) : Int)) * f ((y :: ys).getD (1 + i) 0).toNat) ys.length := sN_congr fun i _ => by
      rw [show j + ((1 + i : Nat) : Int) = j + 1 + (i : Int) by omega, Nat.add_comm 1 i, List.getD_cons_succ]
    rw [e]
theorem sN_sq (f : Nat → Int) (b : Int → Int) (n : Nat) (s : List SStep) (j : Int) (h : ∀ y ∈ s, (0 ≤ y.f0 ∧ y.f0 < (n : Int)) ∧ (0 ≤ y.f1 ∧ y.f1 < (n : Int))) : sN (fun v => f v * sq b (v : Int) s j) n = sN (fun i => b (j + (i : Int)) * (f (s.getD i ⟨0, 0⟩).f0.toNat + f (s.getD i ⟨0, 0⟩).f1.toNat)) s.length := by
  induction s generalizing j with
  | nil =>
    simp only [sq, Int.mul_zero, List.length_nil, sN]
    exact sN_zero n
  | cons y ys ih =>
    have hy := h y List.mem_cons_self
    have := ih (j + 1) fun v hv => h v (List.mem_cons_of_mem _ hv)
    simp only [sq, Int.mul_add]
    rw [sN_add, sN_add, this]
    simp only [mul_if]
    rw [sN_one (fun u => f u * b j) n y.f0 hy.1.1 hy.1.2, sN_one (fun u => f u * b j) n y.f1 hy.2.1 hy.2.2, List.length_cons, Nat.add_comm ys.length 1, sN_split]
    simp only [sN, Int.natCast_zero, Int.add_zero, List.getD_cons_zero, Int.zero_add]
    rw [Int.mul_comm (f y.f0.toNat) (b j), Int.mul_comm (f y.f1.toNat) (b j)]
    have e : sN (fun i => b (j + 1 + (i : Int)) * (f (ys.getD i ⟨0, 0⟩).f0.toNat + f (ys.getD i ⟨0, 0⟩).f1.toNat)) ys.length = sN (fun i => b (j + ((1 + i : Nat) : Int)) * (f ((y :: ys).getD (1 + i) ⟨0, 0⟩).f0.toNat + f ((y :: ys).getD (1 + i) ⟨0, 0⟩).f1.toNat)) ys.length := sN_congr fun i _ => by
      rw [show j + ((1 + i : Nat) : Int) = j + 1 + (i : Int) by omega, Nat.add_comm 1 i, List.getD_cons_succ]
    simp only [Int.mul_add] at e ⊢
    rw [e]
/-- What is given back to the inputs is what the outputs are. -/
theorem adjoint {I : Nat} {s : List SStep} {o : List Int} (hs : Ok I s) (ho : ∀ v ∈ o, 0 ≤ v ∧ v < ((I + s.length : Nat) : Int)) (y : List Int) (hy : y.length = I) (x b : Int → Int) (hb : ∀ v : Int, 0 ≤ v → v < ((I + s.length : Nat) : Int) → b v = so x v o 0 + sq b v s (I : Int)) :
    sN (fun u => rg y (u : Int) * b (u : Int)) I = sN (fun i => x (i : Int) * rg (vl s y) (o.getD i 0)) o.length := by
  have hmem : ∀ z ∈ s, (0 ≤ z.f0 ∧ z.f0 < ((I + s.length : Nat) : Int)) ∧ (0 ≤ z.f1 ∧ z.f1 < ((I + s.length : Nat) : Int)) := fun z hz => by
    obtain ⟨m, hm, rfl⟩ := List.getElem_of_mem hz
    have := hs.at (List.getElem?_eq_getElem hm)
    omega
  have e1 : sN (fun v => rg (vl s y) (v : Int) * b (v : Int)) (I + s.length) = sN (fun v => rg (vl s y) (v : Int) * so x (v : Int) o 0) (I + s.length) + sN (fun v => rg (vl s y) (v : Int) * sq b (v : Int) s (I : Int)) (I + s.length) := by
    rw [← sN_add]
    refine sN_congr fun v hv => ?_
    rw [hb (v : Int) (by omega) (by omega), Int.mul_add]
  rw [sN_so (fun v => rg (vl s y) (v : Int)) x (I + s.length) o 0 ho, sN_sq (fun v => rg (vl s y) (v : Int)) b (I + s.length) s (I : Int) hmem, sN_split] at e1
  have e2 : sN (fun j => rg (vl s y) ((I + j : Nat) : Int) * b ((I + j : Nat) : Int)) s.length = sN (fun i => b ((I : Int) + (i : Int)) * (rg (vl s y) (((s.getD i ⟨0, 0⟩).f0.toNat : Nat) : Int) + rg (vl s y) (((s.getD i ⟨0, 0⟩).f1.toNat : Nat) : Int))) s.length := sN_congr fun j hj => by
    have q := hs.at (List.getElem?_eq_getElem hj)
    have := vl_at (l := y) (by rw [hy]; exact hs) (List.getElem?_eq_getElem hj)
    rw [hy] at this
    rw [this, List.getD_eq_getElem?_getD, List.getElem?_eq_getElem hj, Option.getD_some, show ((s[j].f0.toNat : Nat) : Int) = s[j].f0 by omega, show ((s[j].f1.toNat : Nat) : Int) = s[j].f1 by omega, Int.mul_comm, show ((I + j : Nat) : Int) = (I : Int) + (j : Int) by omega]
  have e3 : sN (fun u => rg (vl s y) (u : Int) * b (u : Int)) I = sN (fun u => rg y (u : Int) * b (u : Int)) I := sN_congr fun u hu => by
    rw [vl_pre s y (by omega) (by omega)]
  have e4 : sN (fun i => x (0 + (i : Int)) * rg (vl s y) (((o.getD i 0).toNat : Nat) : Int)) o.length = sN (fun i => x (i : Int) * rg (vl s y) (o.getD i 0)) o.length := sN_congr fun i hi => by
    have := ho o[i] (List.getElem_mem hi)
    rw [Int.zero_add, List.getD_eq_getElem?_getD, List.getElem?_eq_getElem hi, Option.getD_some, show ((o[i].toNat : Nat) : Int) = o[i] by omega]
  rw [e2, e3, e4] at e1
  omega
/-! ### the turned plan's values -/
/-- Values are multiplied one after the other: exponents are added. -/
theorem fold_val {J : Nat} (x : List Int) (hx : x.length = J) (fs : List Int) (z : List SStep × Int) (h0 : 0 ≤ z.2) (h1 : z.2 < ((J + z.1.length : Nat) : Int)) (hok : Ok J z.1) (hf : ∀ f ∈ fs, 0 ≤ f ∧ f < ((J + z.1.length : Nat) : Int)) :
    ∃ t, (fs.foldl (tm (J : Int)) z).1 = z.1 ++ t ∧ Ok J (z.1 ++ t) ∧ (0 ≤ (fs.foldl (tm (J : Int)) z).2 ∧ (fs.foldl (tm (J : Int)) z).2 < ((J + (z.1 ++ t).length : Nat) : Int)) ∧ t.length = fs.length ∧ rg (vl (z.1 ++ t) x) (fs.foldl (tm (J : Int)) z).2 = rg (vl z.1 x) z.2 + sm (rg (vl z.1 x)) fs := by
  induction fs generalizing z with
  | nil => exact ⟨[], by simp, by simpa using hok, by simpa using ⟨h0, h1⟩, rfl, by simp [sm]⟩
  | cons f fs ih =>
    have hf0 := hf f List.mem_cons_self
    obtain ⟨s, a⟩ := z
    simp only at h0 h1 hok hf hf0
    have hok' : Ok J (s ++ [⟨mn a f, mx a f⟩]) := by
      refine Ok.append.2 ⟨hok, ⟨?_, trivial⟩⟩
      show 0 ≤ mn _ _ ∧ mn _ _ ≤ mx _ _ ∧ mx _ _ < _
      unfold mn mx
      split <;> split <;> omega
    have hl := vl_len s x
    have hnew : rg (vl (s ++ [⟨mn a f, mx a f⟩]) x) ((J : Int) + (s.length : Int)) = rg (vl s x) a + rg (vl s x) f := by
      rw [vl_append]
      show rg (_ ++ [_]) _ = _
      rw [rg_new (by omega)]
      exact add_mnmx (f := rg (vl s x)) a f
    have hold : ∀ v : Int, 0 ≤ v → v < ((J + s.length : Nat) : Int) → rg (vl (s ++ [⟨mn a f, mx a f⟩]) x) v = rg (vl s x) v := fun v v0 v1 => by
      rw [vl_append]
      show rg (_ ++ [_]) _ = _
      rw [rg_app v0 (by omega)]
    have hlen : (s ++ [(⟨mn a f, mx a f⟩ : SStep)]).length = s.length + 1 := by simp
    obtain ⟨t, t1, t2, t3, t4, t5⟩ := ih (tm (J : Int) (s, a) f) (by show 0 ≤ (J : Int) + (s.length : Int); omega) (by show (J : Int) + (s.length : Int) < ((J + (s ++ [_]).length : Nat) : Int); rw [hlen]; omega) hok' (fun g hg => by
      have := hf g (List.mem_cons_of_mem _ hg)
      show 0 ≤ g ∧ g < ((J + (s ++ [_]).length : Nat) : Int)
      rw [hlen]
      omega)
    have et : (tm (J : Int) (s, a) f).1 = s ++ [⟨mn a f, mx a f⟩] := rfl
    rw [et] at t1 t2 t3 t5
    rw [List.foldl_cons]
    refine ⟨[⟨mn a f, mx a f⟩] ++ t, by rw [t1, List.append_assoc], by rw [← List.append_assoc]; exact t2, by rw [← List.append_assoc]; exact t3, by simp [t4], ?_⟩
    rw [← List.append_assoc, t5]
    show rg (vl (s ++ [_]) x) ((J : Int) + (s.length : Int)) + _ = _
    rw [hnew, sm_congr (g := rg (vl s x)) (fun g hg => by have := hf g (List.mem_cons_of_mem _ hg); exact hold g this.1 this.2)]
    simp only [sm]
    omega
theorem foldI_val {J : Nat} (x : List Int) (hx : x.length = J) (fs : List Int) (hne : fs ≠ []) (s : List SStep) (hok : Ok J s) (hf : ∀ f ∈ fs, 0 ≤ f ∧ f < ((J + s.length : Nat) : Int)) :
    ∃ t, (fs.foldl (tmI (J : Int)) (s, -1)).1 = s ++ t ∧ Ok J (s ++ t) ∧ (0 ≤ (fs.foldl (tmI (J : Int)) (s, -1)).2 ∧ (fs.foldl (tmI (J : Int)) (s, -1)).2 < ((J + (s ++ t).length : Nat) : Int)) ∧ t.length + 1 = fs.length ∧ rg (vl (s ++ t) x) (fs.foldl (tmI (J : Int)) (s, -1)).2 = sm (rg (vl s x)) fs := by
  cases fs with
  | nil => exact absurd rfl hne
  | cons f fs =>
    have hf0 := hf f List.mem_cons_self
    have e0 : tmI (J : Int) (s, -1) f = (s, f) := if_pos (by show (-1 : Int) < 0; omega)
    have e1 : ∀ (gs : List Int) (z : List SStep × Int), 0 ≤ z.2 → gs.foldl (tmI (J : Int)) z = gs.foldl (tm (J : Int)) z := by
      intro gs
      induction gs with
      | nil => exact fun _ _ => rfl
      | cons g gs ih =>
        intro z hz
        rw [List.foldl_cons, List.foldl_cons]
        have : tmI (J : Int) z g = tm (J : Int) z g := by unfold tmI; rw [if_neg (by omega)]
        rw [this]
        exact ih _ (by show 0 ≤ (J : Int) + (z.1.length : Int); omega)
    rw [List.foldl_cons, e0, e1 fs (s, f) hf0.1]
    obtain ⟨t, t1, t2, t3, t4, t5⟩ := fold_val x hx fs (s, f) hf0.1 hf0.2 hok (fun g hg => hf g (List.mem_cons_of_mem _ hg))
    refine ⟨t, t1, t2, t3, by simp [t4], ?_⟩
    rw [t5]
    rfl
theorem fo_mem {v : Int} {o : List Int} {j f : Int} (h : f ∈ fo v o j) : j ≤ f ∧ f < j + (o.length : Int) := by
  induction o generalizing j with
  | nil => cases h
  | cons y ys ih =>
    simp only [fo, List.mem_append] at h
    rw [List.length_cons]
    rcases h with h | h
    · split at h
      · have := List.mem_singleton.1 h
        omega
      · cases h
    · have := ih h
      omega
theorem f3_in {v x : Int} {ys : List Int} {f : Int} (h : f ∈ f3 v x ys) : f = x ∧ v ∈ ys := by
  induction ys with
  | nil => cases h
  | cons y ys ih =>
    simp only [f3, List.mem_append] at h
    rcases h with h | h
    · split at h
      · next c => exact ⟨List.mem_singleton.1 h, by rw [c]; exact List.mem_cons_self⟩
      · cases h
    · exact ⟨(ih h).1, List.mem_cons_of_mem _ (ih h).2⟩
theorem fst_mem {I v : Int} {bl : List Int} {s : List SStep} {j f : Int} (h : f ∈ fst_ I v bl s j) : ∃ (m : Nat) (y : SStep), s[m]? = some y ∧ (y.f0 = v ∨ y.f1 = v) ∧ f = rg bl (I + j + (m : Int)) := by
  induction s generalizing j with
  | nil => cases h
  | cons y ys ih =>
    simp only [fst_, List.mem_append] at h
    rcases h with h | h
    · obtain ⟨e, hm⟩ := f3_in h
      refine ⟨0, y, rfl, ?_, by rw [e]; simp⟩
      rcases List.mem_cons.1 hm with e | hm
      · exact .inl e.symm
      · exact .inr (List.mem_singleton.1 hm).symm
    · obtain ⟨m, z, h1, h2, h3⟩ := ih h
      exact ⟨m + 1, z, by simpa using h1, h2, by rw [h3]; congr 1; omega⟩
theorem sq_congr {b b' : Int → Int} {v : Int} {s : List SStep} {j : Int} (h : ∀ (m : Nat) (y : SStep), s[m]? = some y → (y.f0 = v ∨ y.f1 = v) → b (j + (m : Int)) = b' (j + (m : Int))) : sq b v s j = sq b' v s j := by
  induction s generalizing j with
  | nil => rfl
  | cons y ys ih =>
    simp only [sq]
    rw [ih (fun m z hm hz => by
      have := h (m + 1) z (by simpa using hm) hz
      rwa [show j + ((m + 1 : Nat) : Int) = j + 1 + (m : Int) by omega] at this)]
    have h0 := h 0 y rfl
    simp only [Int.natCast_zero, Int.add_zero] at h0
    by_cases c0 : y.f0 = v
    · rw [h0 (.inl c0)]
    · by_cases c1 : y.f1 = v
      · rw [h0 (.inr c1)]
      · rw [if_neg c0, if_neg c1, if_neg c0, if_neg c1]
theorem so_congr {x x' : Int → Int} {v : Int} {o : List Int} {j : Int} (h : ∀ i : Int, j ≤ i → i < j + (o.length : Int) → x i = x' i) : so x v o j = so x' v o j := by
  induction o generalizing j with
  | nil => rfl
  | cons y ys ih =>
    simp only [so]
    rw [h j (by omega) (by rw [List.length_cons]; omega), ih (fun i h0 h1 => h i (by omega) (by rw [List.length_cons]; omega))]
theorem sm_one (l : List Int) : sm (fun _ => 1) l = (l.length : Int) := by
  induction l with
  | nil => rfl
  | cons a l ih => simp only [sm, ih, List.length_cons]; omega
/-- The turned plan: its values are what its factors add up to, and how many steps it has. -/
theorem tn_val {I J : Nat} {s : List SStep} {o : List Int} (x : List Int) (hx : x.length = J) (hs : Ok I s) (hJ : o.length = J) (hne : ∀ v : Int, 0 ≤ v → v < ((I + s.length : Nat) : Int) → ∀ bl, fo v o 0 ++ fst_ (I : Int) v bl s 0 ≠ []) :
    ∀ (d : Nat), d ≤ I + s.length → ∀ (bl : List Int) (st : List SStep), bl.length = I + s.length → Ok J st →
      (∀ v : Int, (d : Int) ≤ v → v < ((I + s.length : Nat) : Int) → 0 ≤ rg bl v ∧ rg bl v < ((J + st.length : Nat) : Int)) →
      (∀ v : Int, (d : Int) ≤ v → v < ((I + s.length : Nat) : Int) → rg (vl st x) (rg bl v) = so (rg x) v o 0 + sq (fun u => rg (vl st x) (rg bl u)) v s (I : Int)) →
      Ok J (tn (J : Int) (I : Int) s o d bl st).1 ∧ (tn (J : Int) (I : Int) s o d bl st).2.length = I + s.length ∧
      (∀ v : Int, 0 ≤ v → v < ((I + s.length : Nat) : Int) → 0 ≤ rg (tn (J : Int) (I : Int) s o d bl st).2 v ∧ rg (tn (J : Int) (I : Int) s o d bl st).2 v < ((J + (tn (J : Int) (I : Int) s o d bl st).1.length : Nat) : Int)) ∧
      (∀ v : Int, 0 ≤ v → v < ((I + s.length : Nat) : Int) → rg (vl (tn (J : Int) (I : Int) s o d bl st).1 x) (rg (tn (J : Int) (I : Int) s o d bl st).2 v) = so (rg x) v o 0 + sq (fun u => rg (vl (tn (J : Int) (I : Int) s o d bl st).1 x) (rg (tn (J : Int) (I : Int) s o d bl st).2 u)) v s (I : Int)) ∧
      ((tn (J : Int) (I : Int) s o d bl st).1.length : Int) + (d : Int) = (st.length : Int) + sN (fun v => so (fun _ => 1) (v : Int) o 0 + sq (fun _ => 1) (v : Int) s (I : Int)) d := by
  intro d
  induction d with
  | zero =>
    intro hd bl st hbl hok hb hv
    exact ⟨hok, hbl, fun v h0 h1 => hb v (by simpa using h0) h1, fun v h0 h1 => hv v (by simpa using h0) h1, by simp [tn, sN]⟩
  | succ d ih =>
    intro hd bl st hbl hok hb hv
    have hF : ∀ f ∈ fo (d : Int) o 0 ++ fst_ (I : Int) (d : Int) bl s 0, 0 ≤ f ∧ f < ((J + st.length : Nat) : Int) := by
      intro f hf
      rcases List.mem_append.1 hf with hf | hf
      · have := fo_mem hf
        omega
      · obtain ⟨m, y, h1, h2, rfl⟩ := fst_mem hf
        have q := hs.at h1
        have := (List.getElem?_eq_some_iff.1 h1).1
        exact hb _ (by omega) (by omega)
    obtain ⟨t, t1, t2, t3, t4, t5⟩ := foldI_val x hx _ (hne (d : Int) (by omega) (by omega) bl) st hok hF
    have hlen : ((fo (d : Int) o 0 ++ fst_ (I : Int) (d : Int) bl s 0).length : Int) = so (fun _ => 1) (d : Int) o 0 + sq (fun _ => 1) (d : Int) s (I : Int) := by
      have e := sm_app (fun _ => 1) (fo (d : Int) o 0) (fst_ (I : Int) (d : Int) bl s 0)
      rw [sm_one, sm_fo, sm_fst, Int.add_zero] at e
      exact e
    have hsum : sm (rg (vl st x)) (fo (d : Int) o 0 ++ fst_ (I : Int) (d : Int) bl s 0) = so (rg x) (d : Int) o 0 + sq (fun u => rg (vl st x) (rg bl u)) (d : Int) s (I : Int) := by
      rw [sm_app, sm_fo, sm_fst, Int.add_zero]
      rw [so_congr (x' := rg x) fun i h0 h1 => vl_pre st x h0 (by omega)]
    rw [hsum] at t5
    simp only [tn]
    generalize (fo (d : Int) o 0 ++ fst_ (I : Int) (d : Int) bl s 0) = F at *
    obtain ⟨⟨S, a⟩, hz⟩ : ∃ z, F.foldl (tmI (J : Int)) (st, -1) = z := ⟨_, rfl⟩
    rw [hz] at t1 t3 t5 ⊢
    simp only at t1 t3 t5 ⊢
    subst t1
    have hset : ∀ v : Int, 0 ≤ v → v < ((I + s.length : Nat) : Int) → rg (bl.set d a) v = if (d : Int) = v then a else rg bl v := fun v h0 h1 => by
      have := rg_set (l := bl) (x := (d : Int)) (v := a) h0 (by omega) (by omega)
      rwa [Int.toNat_natCast] at this
    have hpre : ∀ v : Int, 0 ≤ v → v < ((J + st.length : Nat) : Int) → rg (vl (st ++ t) x) v = rg (vl st x) v := fun v h0 h1 => by
      rw [vl_append, vl_pre _ _ h0 (by rw [vl_len, hx]; exact h1)]
    have hval : ∀ v : Int, (d : Int) < v → v < ((I + s.length : Nat) : Int) → rg (vl (st ++ t) x) (rg (bl.set d a) v) = rg (vl st x) (rg bl v) := fun v h0 h1 => by
      rw [hset v (by omega) h1, if_neg (by omega)]
      have := hb v (by omega) h1
      exact hpre _ this.1 this.2
    have hsq : ∀ v : Int, (d : Int) ≤ v → sq (fun u => rg (vl (st ++ t) x) (rg (bl.set d a) u)) v s (I : Int) = sq (fun u => rg (vl st x) (rg bl u)) v s (I : Int) := fun v h0 => sq_congr fun m y hm hy => by
      have q := hs.at hm
      have := (List.getElem?_eq_some_iff.1 hm).1
      exact hval _ (by omega) (by omega)
    have hll : (st ++ t).length = st.length + t.length := List.length_append
    obtain ⟨r1, r2, r3, r4, r5⟩ := ih (by omega) (bl.set d a) (st ++ t) (by simpa using hbl) t2 (fun v h0 h1 => by
      rw [hset v (by omega) h1]
      by_cases c : (d : Int) = v
      · rw [if_pos c]
        exact t3
      · rw [if_neg c]
        have := hb v (by omega) h1
        omega) (fun v h0 h1 => by
      rw [hsq v h0]
      by_cases c : (d : Int) = v
      · subst c
        rw [hset _ (by omega) h1, if_pos rfl]
        exact t5
      · rw [hval v (by omega) h1]
        exact hv v (by omega) h1)
    refine ⟨r1, r2, r3, r4, ?_⟩
    simp only [sN]
    omega
theorem so_len (o : List Int) (n : Nat) (h : ∀ v ∈ o, 0 ≤ v ∧ v < (n : Int)) : sN (fun v => so (fun _ => 1) (v : Int) o 0) n = (o.length : Int) := by
  have := sN_so (fun _ => 1) (fun _ => 1) n o 0 h
  simp only [Int.one_mul, Int.mul_one] at this
  rw [this]
  have e : ∀ m : Nat, sN (fun _ => (1 : Int)) m = (m : Int) := fun m => by
    induction m with
    | zero => rfl
    | succ m ih => simp only [sN, ih]; omega
  exact e _
theorem sq_len (s : List SStep) (n : Nat) (j : Int) (h : ∀ y ∈ s, (0 ≤ y.f0 ∧ y.f0 < (n : Int)) ∧ (0 ≤ y.f1 ∧ y.f1 < (n : Int))) : sN (fun v => sq (fun _ => 1) (v : Int) s j) n = 2 * (s.length : Int) := by
  have := sN_sq (fun _ => 1) (fun _ => 1) n s j h
  simp only [Int.one_mul] at this
  rw [this]
  have e : ∀ m : Nat, sN (fun _ => (1 : Int) + 1) m = 2 * (m : Int) := fun m => by
    induction m with
    | zero => rfl
    | succ m ih => simp only [sN, ih]; omega
  exact e _
end Go.Proofs.Ytoegbcbdiggbjaa.Pure
