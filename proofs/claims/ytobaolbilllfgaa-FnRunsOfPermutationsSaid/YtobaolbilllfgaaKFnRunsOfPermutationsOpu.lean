/- The engine: rows of rows some of whose rows are others'; loops whose first round is walked by itself; a row stored into rows. -/
import Derived.Test.YtobaolbilllfgaaKFnRunsOfPermutationsOpt
set_option linter.unusedVariables false
set_option linter.unusedSimpArgs false
namespace Go.Proofs.Ytobaolbilllfgaa.Frame
open Go.RowKit Go.Proofs.YtobaolbilllfgaaW.PrintWords Go.Proofs.YtobaolbilllfgaaW.PrintLast
abbrev Mg (α : Type) := Bool × Option Addr × Nat × List α
/-- Rows with their heads; those that begin with false are others'. -/
def xk {α : Type} (e : Nat) (d : Kd α) : Kd (Mg α) where
  sz := 1
  E := e :: d.E
  K := fun w g cs => cs = [.slice g.2.1 g.2.2.2.length g.2.2.1] ∧ (g.1 = true → g.2.2.2.length ≤ g.2.2.1 ∧ d.C w g.2.1 g.2.2.2.length g.2.2.2)
  M := fun w base ok g cs => cs = [.slice g.2.1 g.2.2.2.length g.2.2.1] ∧ (g.1 = true → d.R e w base ok (.slice g.2.1 g.2.2.2.length g.2.2.1) g.2.2.2)
  K_len := by
    rintro w x cs ⟨rfl, _⟩
    rfl
  K_one := by
    rintro w x cs ⟨rfl, _⟩ u hu
    rw [List.mem_singleton.1 hu]
    rfl
  K_below := by
    rintro w w1 x cs hb ⟨rfl, h⟩
    exact ⟨rfl, fun hx => ⟨(h hx).1, Kd.C_below (h hx).2 hb⟩⟩
  K_of_M := by
    rintro w base ok x cs ⟨rfl, h⟩
    exact ⟨rfl, fun hx => (Kd.R_reads' (h hx)).2⟩
  M_mono := by
    rintro w base ok ok' x cs hok ⟨rfl, h⟩
    exact ⟨rfl, fun hx => Kd.R_mono (h hx) hok⟩
  M_bound := by
    rintro w base ok x cs ⟨rfl, h⟩
    exact ⟨rfl, fun hx => Kd.R_bound (h hx)⟩
  M_move := by
    rintro w w1 base ok x cs hm ⟨rfl, h⟩
    exact ⟨rfl, fun hx => Kd.R_move (h hx) hm⟩
  M_lower := by
    rintro w base base' ok x cs hb ⟨rfl, h⟩
    exact ⟨rfl, fun hx => Kd.R_lower (h hx) hb⟩
section
variable {α : Type}
theorem zp_nil (H : Hd) : zp H ([] : List (List α)) = [] := by cases H <;> rfl
theorem nil_zp {H : Hd} {l : List (List α)} (h : zp H l = []) : l = [] := List.eq_nil_of_length_eq_zero (by rw [← zp_len H l, h]; rfl)
/-- Others' rows ahead, then rows of its own. -/
def bo (H0 : Hd) (l0 : List (List α)) (H : Hd) (r : List (List α)) : List (Mg α) := (zp H0 l0).map (fun g => (false, g)) ++ (zp H r).map (fun g => (true, g))
def hx (H0 : Hd) (l0 : List (List α)) (H : Hd) : Hd := ((zp H0 l0).map fun g => (g.1, g.2.1)) ++ H
theorem zp_hx (H r) : ∀ (H0 : Hd) (l0 : List (List α)), zp (hx H0 l0 H) (l0 ++ r) = zp H0 l0 ++ zp H r
  | H0, [] => by unfold hx; rw [zp_nil]; rfl
  | [], y :: ys => by
    have := zp_hx H r [] ys
    show zp ((none, 0) :: hx [] ys H) (y :: (ys ++ r)) = _
    simp only [zp, List.cons_append]
    rw [this]
  | g :: gs, y :: ys => by
    have := zp_hx H r gs ys
    show zp ((g.1, g.2) :: hx gs ys H) (y :: (ys ++ r)) = _
    simp only [zp, List.cons_append]
    rw [this]
theorem bo_len (H0 : Hd) (l0 : List (List α)) (H : Hd) (r : List (List α)) : (bo H0 l0 H r).length = (l0 ++ r).length := by simp [bo, zp_len]
/-- Rows of a row, picked by numbers. -/
def pks (l : List (List α)) (js : List Int) : List (List α) := js.map fun j => (gt l j).getD []
def pkh (H : Hd) (js : List Int) : Hd := js.map fun j => (hA H j, hC H j)
theorem zp_pk (H : Hd) (l : List (List α)) : ∀ js, zp (pkh H js) (pks l js) = js.map fun j => (hA H j, hC H j, (gt l j).getD [])
  | [] => rfl
  | j :: js => by
    have := zp_pk H l js
    show (hA H j, hC H j, (gt l j).getD []) :: zp (pkh H js) (pks l js) = _
    rw [this]
    rfl
theorem bo_pk (H : Hd) (l : List (List α)) (js : List Int) : bo (pkh H js) (pks l js) [] [] = js.map fun j => (false, hA H j, hC H j, (gt l j).getD []) := by
  unfold bo
  rw [zp_pk, zp_nil, List.map_nil, List.append_nil, List.map_map]
  rfl
section
variable {d : Kd α} {e n n0 : Nat} {A A0 : Option Addr} {H0 H : Hd} {l0 r : List (List α)} {js : List Int} {w : World} {S : Nat → Prop}
theorem C_bo (h : (xk e d).C w A n (bo H0 l0 H r)) (h0 : (gk e d).C w A0 n0 (zp H0 l0)) : (gk e d).C w A n (zp (hx H0 l0 H) (l0 ++ r)) := by
  rw [zp_hx]
  obtain ⟨c1, c2, c3⟩ := h
  refine ⟨by rw [← c1]; simp [bo], c2, fun hn => ?_⟩
  obtain ⟨ad, rfl, hh⟩ := c3 hn
  refine ⟨ad, rfl, fun j p hj => ?_⟩
  by_cases hl : j < (zp H0 l0).length
  · rw [List.getElem?_append_left hl] at hj
    obtain ⟨c, k1, k2, k3⟩ := hh j (false, p) (by unfold bo; rw [List.getElem?_append_left (by simpa using hl), List.getElem?_map, hj]; rfl)
    obtain ⟨ad0, _, hh0⟩ := h0.2.2 (by have := h0.1; omega)
    obtain ⟨c0, _, q2, _⟩ := hh0 j p hj
    exact ⟨c, k1, ⟨k2.1, q2.2⟩, k3⟩
  · rw [List.getElem?_append_right (by omega)] at hj
    obtain ⟨c, k1, k2, k3⟩ := hh j (true, p) (by unfold bo; rw [List.getElem?_append_right (by simpa using Nat.le_of_not_lt hl), List.getElem?_map, List.length_map, hj]; rfl)
    exact ⟨c, k1, ⟨k2.1, k2.2 rfl⟩, k3⟩
theorem stab_bo (h : Stable w S (fun W => (xk e d).C W A n (bo H0 l0 H r))) (h0 : Stable w S (fun W => (gk e d).C W A0 n0 (zp H0 l0))) : Stable w S (fun W => (gk e d).C W A n (zp (hx H0 l0 H) (l0 ++ r))) := fun W hW => C_bo (h W hW) (h0 W hW)
theorem C_pk (h : (xk e d).C w A n (bo (pkh H js) (pks r js) [] [])) (h0 : (gk e d).C w A0 n0 (zp H r)) : (gk e d).C w A n (zp (pkh H js) (pks r js)) := by
  rw [bo_pk] at h
  rw [zp_pk]
  obtain ⟨c1, c2, c3⟩ := h
  refine ⟨by rw [← c1]; simp, c2, fun hn => ?_⟩
  obtain ⟨ad, rfl, hh⟩ := c3 hn
  refine ⟨ad, rfl, fun j p hj => ?_⟩
  rw [List.getElem?_map] at hj
  obtain ⟨q, hq, rfl⟩ := Option.map_eq_some_iff.1 hj
  obtain ⟨c, k1, k2, k3⟩ := hh j (false, hA H q, hC H q, (gt r q).getD []) (by rw [List.getElem?_map, hq]; rfl)
  refine ⟨c, k1, ⟨k2.1, ?_⟩, k3⟩
  show ((gt r q).getD []).length ≤ hC H q ∧ d.C w (hA H q) ((gt r q).getD []).length ((gt r q).getD [])
  cases hg : gt r q with
  | none => exact ⟨Nat.zero_le _, rfl, Nat.zero_le _, fun h => absurd h (Nat.lt_irrefl 0)⟩
  | some y => exact K_in h0 hg
theorem stab_pk (h : Stable w S (fun W => (xk e d).C W A n (bo (pkh H js) (pks r js) [] []))) (h0 : Stable w S (fun W => (gk e d).C W A0 n0 (zp H r))) : Stable w S (fun W => (gk e d).C W A n (zp (pkh H js) (pks r js))) := fun W hW => C_pk (h W hW) (h0 W hW)
theorem R_toX {u base : Nat} {ok : Nat → Prop} {v : Value} (h : (gk e d).R u w base ok v (zp H r)) : (xk e d).R u w base ok v ((zp H r).map fun g => (true, g)) := by
  obtain ⟨h0, inner, hown, hreps⟩ := h
  refine ⟨h0, inner, by rw [List.length_map]; exact hown, by rw [List.length_map]; exact hreps.1, fun j p hj => ?_⟩
  rw [List.getElem?_map] at hj
  obtain ⟨q, hq, rfl⟩ := Option.map_eq_some_iff.1 hj
  have := hreps.2 j q hq
  exact ⟨this.1, fun _ => this.2⟩
end
/-- Rows of its own, appended behind others'. -/
def apx (l0 r ys : List (List α)) : Option (List (List α)) := (ap (l0 ++ r) ys).bind fun _ => some (r ++ ys)
end
section
variable {P : Program} {N : Md} {w0 ws : World} {P0 : Nat → Prop} {e : Nat → Value} {L : List (Thing w0.heap.size)} {d : Tmp} {ty : TypeId} {pos : String} {af : Array Edge} {g : Option (Nat × Bool)} {x y : Operand} {v : Value} {t u ue : TypeId} {α : Type} {dk : Kd α}
theorem Fr.toX {i : Nat} {H : Hd} {r : List (List α)} {w : World} (h : Fr w0 ws P0 L w) (hi : L[i]? = some (row (gk ue dk) u v (zp H r))) : Fr w0 ws P0 (L.set i (row (xk ue dk) u v ((zp H r).map fun g => (true, g)))) w := by
  obtain ⟨F, f1, f2, f3⟩ := h.focus hi
  exact f3 w _ (Below.refl _ _) (Kept.refl _ _) (Kd.R_mono (R_toX f1) (fun k hk => .inl hk))
theorem c_toV {c : Code} {Q : Post} {i : Nat} {A : Option Addr} {n m : Nat} {H0 : Hd} (H : Hd) (l : List (List α)) (hi : L[i]? = some (row (gk ue dk) u (.slice A n m) (zp H0 []))) (k : C P N w0 ws P0 c Q e (L.set i (row (xk ue dk) u (.slice A n m) (bo (pkh H []) (pks l []) [] [])))) : C P N w0 ws P0 c Q e L := fun w hF => k w (by
  have h := hF.toX hi
  rw [zp_nil] at h
  exact h)
/-- Rows that are read, appended to none. -/
theorem e_appB {i n c m cm : Nat} {A B : Option Addr} {H H0 : Hd} {l0 zs : List (List α)} {z : Value} {bytes : Nat} (ht : P.underlying t = some (.slice u)) (hinfo : (P.info? u).map (fun i => (i.zero, i.size, i.bytes)) = some (some z, 1, bytes)) (hz : z.cells.size = 1) (hb : 0 < bytes ∧ bytes ≤ 100000) (hi : L[i]? = some (row (gk ue dk) u (.slice A n c) (zp H []))) (hC : ∀ w, Fr w0 ws P0 L w → (gk ue dk).C w B m (zp H0 l0)) (hx : ev N e x = .slice A n c) (hy : ev N e y = .slice B m cm) (hg : ap ([] : List (List α)) l0 = some zs) :
    Ev1 P N w0 ws P0 ⟨some d, .call ⟨.builtin .append, #[x, y], #[t, t]⟩, ty, pos, af, g⟩ e L (fun s : Option Addr × Nat => upd e d (.slice s.1 (l0 ++ []).length s.2)) (fun s => L.set i (row (xk ue dk) u (.slice s.1 (l0 ++ []).length s.2) (bo H0 l0 [] []))) := fun w hF K Q k => by
  unfold ap at hg
  split at hg
  · rename_i hn
    have hil : i < L.length := (List.getElem?_eq_some_iff.1 hi).1
    have hF2 := hF.toX hi
    rw [zp_nil, List.map_nil] at hF2
    obtain ⟨ok, hR, hfresh, hX⟩ := hF2.row_append (List.getElem?_set_self hil)
    have hrd0 := hC w hF
    have hrd : ReadsRow (fun (p : Mg α) cs => p.1 = false ∧ cs = [.slice p.2.1 p.2.2.2.length p.2.2.1]) 1 w B m ((zp H0 l0).map fun g => (false, g)) := ⟨by rw [List.length_map]; exact hrd0.1, hrd0.2.1, fun hm => by
      obtain ⟨ad, rfl, hh⟩ := hrd0.2.2 hm
      refine ⟨ad, rfl, fun j p hj => ?_⟩
      rw [List.getElem?_map] at hj
      obtain ⟨q, hq, rfl⟩ := Option.map_eq_some_iff.1 hj
      obtain ⟨c, k1, k2, k3⟩ := hh j q hq
      exact ⟨c, k1, ⟨rfl, k2.1⟩, k3⟩⟩
    have hml : l0.length = m := by rw [← hrd0.1, zp_len]
    have he : ([] : List (Mg α)) ++ (zp H0 l0).map (fun g => (false, g)) = bo H0 l0 [] [] := by simp [bo, zp_nil]
    have hlen := bo_len H0 l0 [] ([] : List (List α))
    have h := Kd.R_append_rows_step (P := P) (ops := #[⟨some d, .call ⟨.builtin .append, #[x, y], #[t, t]⟩, ty, pos, af, none⟩]) (o := ⟨some d, .call ⟨.builtin .append, #[x, y], #[t, t]⟩, ty, pos, af, none⟩) (a := act N e) (Q := Q) (Kc := K) (xk ue dk) (w0 := w0) (W := w) w0.heap.size (wanted_none rfl _) x y t u z bytes rfl ht hinfo hz (Nat.lt_succ_self 0) hb.1 (.slice A n c) [] _ B m cm ok (fun _ => False) (by rw [act_eval]; exact hx) (by rw [act_eval]; exact hy) hR hrd (fun p cs hp => ⟨hp.2, fun ht => by rw [hp.1] at ht; cases ht⟩) (fun _ h => h.elim) hfresh hF.bel hF.size (by
      have := Nat.mul_le_mul (show 0 + m ≤ 1000000000 by simp at hn; omega) hb.2
      simp only [List.length_nil]
      omega) (fun v1 w1 hr hB hgr _ => by
      rw [he] at hr
      obtain ⟨A1, c1, rfl⟩ := Kd.R_slice hr
      have hX1 := hX _ _ _ hr hgr
      rw [List.set_set, hlen] at hX1
      show K ((act N e).put (some d) _) w1
      rw [act_put, hlen]
      exact k (A1, c1) w1 hX1)
    rw [if_pos (wanted_none rfl _)] at h
    exact h
  · cases hg
theorem ap_bo {H0 H H2 : Hd} {l0 r ys zs : List (List α)} (h : apx l0 r ys = some zs) : ∃ H', ap (bo H0 l0 H r) ((zp H2 ys).map fun g => (true, g)) = some (bo H0 l0 H' zs) := by
  unfold apx ap at h
  split at h
  · rename_i hn
    obtain rfl := Option.some.inj h
    obtain ⟨H', hH⟩ := zp_ex (zp H r ++ zp H2 ys) (r ++ ys) (by rw [List.map_append, map_zp, map_zp])
    refine ⟨H', ?_⟩
    unfold ap
    rw [if_pos (by rw [bo_len, List.length_map, zp_len]; exact hn)]
    unfold bo
    rw [← hH, List.map_append, List.append_assoc]
  · cases h
theorem e_appX {i j n c m cm : Nat} {A B : Option Addr} {H0 H H2 : Hd} {l0 r ys zs : List (List α)} {z : Value} {bytes : Nat} (ht : P.underlying t = some (.slice u)) (hinfo : (P.info? u).map (fun i => (i.zero, i.size, i.bytes)) = some (some z, 1, bytes)) (hz : z.cells.size = 1) (hb : 0 < bytes ∧ bytes ≤ 100000) (hij : Nat.beq i j = false) (hi : L[i]? = some (row (xk ue dk) u (.slice A n c) (bo H0 l0 H r))) (hj : L[j]? = some (row (gk ue dk) u (.slice B m cm) (zp H2 ys))) (hx : ev N e x = .slice A n c) (hy : ev N e y = .slice B m cm) (hg : apx l0 r ys = some zs) :
    Ev1 P N w0 ws P0 ⟨some d, .call ⟨.builtin .append, #[x, y], #[t, t]⟩, ty, pos, af, g⟩ e L (fun s : Option Addr × Nat × Hd => upd e d (.slice s.1 (l0 ++ zs).length s.2.1)) (fun s => (L.set j gone).set i (row (xk ue dk) u (.slice s.1 (l0 ++ zs).length s.2.1) (bo H0 l0 s.2.2 zs))) := fun w hF K Q k => by
  have hne : i ≠ j := fun he => by rw [he] at hij; simp at hij
  have hjl : j < L.length := (List.getElem?_eq_some_iff.1 hj).1
  obtain ⟨H', hap⟩ := ap_bo (H0 := H0) (H := H) (H2 := H2) hg
  refine e_app (dk := xk ue dk) ht hinfo hz (Nat.lt_succ_self 0) hb hij (by rw [List.getElem?_set_ne (fun e => hne e.symm)]; exact hi) (List.getElem?_set_self hjl) hx hy hap w (hF.toX hj) K Q (fun s w' hF' => ?_)
  rw [bo_len, List.set_set] at hF'
  rw [bo_len]
  exact k (s.1, s.2, H') w' hF'
/-- A literal of one row that is another's. -/
theorem e_litV {H : Hd} {l : List (List α)} {k : Int} {ys : List α} {z : Value} {bytes : Nat} (ht : P.underlying t = some (.slice u)) (hinfo : (P.info? u).map (fun i => (i.zero, i.size, i.bytes)) = some (some z, 1, bytes)) (hz : z.cells.size = 1) (hg : gt l k = some ys) (hx : ev N e x = .slice (hA H k) ys.length (hC H k)) :
    Ev1 P N w0 ws P0 ⟨some d, .buildSlice t 1 #[(0, x)], ty, pos, af, g⟩ e L (fun s : Option Addr × Nat => upd e d (.slice s.1 (pks l [k]).length s.2)) (fun s => row (xk ue dk) u (.slice s.1 (pks l [k]).length s.2) (bo (pkh H [k]) (pks l [k]) [] []) :: L) := by
  have he : bo (pkh H [k]) (pks l [k]) [] [] = [(false, hA H k, hC H k, ys)] := by rw [bo_pk]; simp [hg]
  rw [he]
  have hfill : Instr.fill (fun i => some (i * 1, 1)) ((List.range (1 * 1)).map (z.cells[· % z.cells.size]!)).toArray [(0, Value.slice (hA H k) ys.length (hC H k))] = some #[Value.slice (hA H k) ys.length (hC H k)] := by
    rw [show (List.range (1 * 1)).map (z.cells[· % z.cells.size]!) = [z.cells[0 % z.cells.size]!] from rfl]
    rfl
  exact e_lit (dk := xk ue dk) [(false, hA H k, hC H k, ys)] (n := 1) (parts := [(0, x)]) (vs := [(0, .slice (hA H k) ys.length (hC H k))]) (cs := [.slice (hA H k) ys.length (hC H k)]) ht hinfo (Nat.lt_succ_self 0) rfl ⟨Nat.lt_succ_self 0, (show 1 * 1 ≤ 16777216 by decide)⟩ (by simp [hx]) hfill (fun w base => ⟨rfl, fun j p hj => by
    cases j with
    | zero =>
      obtain rfl : (false, hA H k, hC H k, ys) = p := by simpa using hj
      exact ⟨rfl, fun h => by cases h⟩
    | succ j => simp at hj⟩)
theorem e_appV {i j n c m cm : Nat} {A B : Option Addr} {H : Hd} {l : List (List α)} {js ks zs : List Int} {z : Value} {bytes : Nat} (ht : P.underlying t = some (.slice u)) (hinfo : (P.info? u).map (fun i => (i.zero, i.size, i.bytes)) = some (some z, 1, bytes)) (hz : z.cells.size = 1) (hb : 0 < bytes ∧ bytes ≤ 100000) (hij : Nat.beq i j = false) (hi : L[i]? = some (row (xk ue dk) u (.slice A n c) (bo (pkh H js) (pks l js) [] []))) (hj : L[j]? = some (row (xk ue dk) u (.slice B m cm) (bo (pkh H ks) (pks l ks) [] []))) (hx : ev N e x = .slice A n c) (hy : ev N e y = .slice B m cm) (hg : ap js ks = some zs) :
    Ev1 P N w0 ws P0 ⟨some d, .call ⟨.builtin .append, #[x, y], #[t, t]⟩, ty, pos, af, g⟩ e L (fun s : Option Addr × Nat => upd e d (.slice s.1 (pks l zs).length s.2)) (fun s => (L.set j gone).set i (row (xk ue dk) u (.slice s.1 (pks l zs).length s.2) (bo (pkh H zs) (pks l zs) [] []))) := by
  have hap : ap (bo (pkh H js) (pks l js) [] []) (bo (pkh H ks) (pks l ks) [] []) = some (bo (pkh H zs) (pks l zs) [] []) := by
    unfold ap at hg ⊢
    split at hg
    · rename_i hn
      obtain rfl := Option.some.inj hg
      rw [bo_pk, bo_pk, bo_pk, if_pos (by rw [List.length_map, List.length_map]; exact hn), List.map_append]
    · cases hg
  have hl : (bo (pkh H zs) (pks l zs) [] []).length = (pks l zs).length := by rw [bo_len, List.append_nil]
  have h := e_app (P := P) (N := N) (w0 := w0) (ws := ws) (P0 := P0) (L := L) (d := d) (ty := ty) (pos := pos) (af := af) (g := g) (dk := xk ue dk) ht hinfo hz (Nat.lt_succ_self 0) hb hij hi hj hx hy hap
  rw [hl] at h
  exact h
/-- A row of its own, stored into rows. -/
theorem e_setG {i j n c m cm : Nat} {A B : Option Addr} {xs zs : List (List α)} {ys : List α} {H : Hd} {q : Int} (hij : Nat.beq i j = false) (hi : L[i]? = some (row (gk ue dk) u (.slice A n c) (zp H xs))) (hj : L[j]? = some (row dk ue (.slice B m cm) ys)) (hx : ev N e x = .pointer (some ((adr A).add (q.toNat * 1)))) (hy : ev N e y = .slice B m cm) (hz : (P.info? t).map (·.size) = some 1) (hg : st xs q ys = some zs) :
    Ev1 P N w0 ws P0 ⟨none, .store t x y, ty, pos, af, g⟩ e L (fun _ : Hd => e) (fun H' => (L.set j gone).set i (row (gk ue dk) u (.slice A n c) (zp H' zs))) := fun w hF K Q k => by
  unfold st at hg
  split at hg
  · rename_i hm
    obtain rfl := Option.some.inj hg
    have hne : i ≠ j := fun he => by rw [he] at hij; simp at hij
    obtain ⟨ok, okp, hR, hR2, hok, hfresh, hX⟩ := hF.row_append2 hne hi hj
    obtain ⟨g0, c0, he, _⟩ := Kd.R_form hR (by rw [zp_len]; omega)
    injection he with e1 e2 e3
    subst e1 e2 e3
    obtain ⟨hml, _, _⟩ := Kd.R_reads' hR2
    have hS : (Kd.scalar (fun h : Option Addr × Nat × Nat => Value.slice h.1 h.2.1 h.2.2) (fun _ => rfl)).R u w w0.heap.size ok (.slice (some ⟨g0, 0, none⟩) (zp H xs).length c) ((zp H xs).map fun g => (g.1, g.2.2.length, g.2.1)) := by
      obtain ⟨h0, inner, hown, hreps⟩ := hR
      refine ⟨h0, inner, by rw [List.length_map]; exact hown, by rw [List.length_map]; exact hreps.1, fun j p hj => ?_⟩
      rw [List.getElem?_map] at hj
      obtain ⟨q', hq', rfl⟩ := Option.map_eq_some_iff.1 hj
      exact (hreps.2 j q' hq').1
    have hlq : q.toNat < (zp H xs).length := by rw [zp_len]; omega
    have hc := Kd.R_celln (none, 0, 0) hS q hm.1 (by rw [zp_len]; omega)
    have hP := Kd.R_putg hS q (B, m, cm)
    have ha : ((adr (some ⟨g0, 0, none⟩)).add (q.toNat * 1)) = ⟨g0, q.toNat, none⟩ := by rw [Nat.mul_one]; exact add_plain _ _
    rw [ha] at hx
    obtain ⟨H', hH⟩ := zp_ex ((zp H xs).set q.toNat (B, cm, ys)) (xs.set q.toNat ys) (by rw [List.map_set, map_zp])
    have hk : ∀ k, k ≠ g0 → k < w.heap.size → (w.setCell ⟨g0, q.toNat, none⟩ (Value.slice B m cm)).heap[k]? = w.heap[k]? := fun k hkg hks => hP.2.block k hks (by simpa using hkg)
    have hnew : (gk ue dk).R u (w.setCell ⟨g0, q.toNat, none⟩ (Value.slice B m cm)) w0.heap.size ok (.slice (some ⟨g0, 0, none⟩) (zp H xs).length c) (zp H' (xs.set q.toNat ys)) := by
      rw [← hH]
      obtain ⟨_, inner, hown, hreps⟩ := hR
      obtain ⟨h0, inner1, hown1, hreps1⟩ := hP.1
      have hl1 : (((zp H xs).map fun g => (g.1, g.2.2.length, g.2.1)).set q.toNat (B, m, cm)).length = ((zp H xs).set q.toNat (B, cm, ys)).length := by simp
      refine ⟨h0, inner1, by rw [← hl1]; exact hown1, by rw [← hl1]; exact hreps1.1, fun j p hj => ?_⟩
      by_cases hq : q.toNat = j
      · subst hq
        rw [List.getElem?_set_self hlq] at hj
        obtain rfl := Option.some.inj hj
        have h1 := hreps1.2 q.toNat (B, m, cm) (List.getElem?_set_self (by simpa using hlq))
        refine ⟨by rw [hml] at h1; exact h1, ?_⟩
        show dk.R ue _ _ _ (.slice B ys.length cm) ys
        rw [← hml]
        refine Kd.R_mono (Kd.R_step hR2 (fun k hk1 hk2 => hk k (fun e => (hok k hk1).2 (by rw [e]; rfl)) hk2)) (fun k hk => hok k hk)
      · rw [List.getElem?_set_ne hq] at hj
        have h1 := hreps1.2 j (p.1, p.2.2.length, p.2.1) (by rw [List.getElem?_set_ne hq, List.getElem?_map, hj]; rfl)
        have h2 := (hreps.2 j p hj).2
        exact ⟨h1, Kd.R_step h2 (fun k hk1 hk2 => hk k (fun e => hk1.2 (by rw [e]; rfl)) hk2)⟩
    refine skip_ev rfl (w1 := w.setCell ⟨g0, q.toNat, none⟩ (Value.slice B m cm)) ?_ (k H' _ (hX _ _ _ hnew (by simpa [Value.ownBlock] using hP.2)))
    simp [execOp, hx, hy, Instr.storeAt, Instr.sureAddr, run_store1 hz (v := Value.slice B m cm) rfl (by rw [hc.1]; rfl) hc.2]
  · cases hg
end
/-! rows cut -/
theorem ct_zp {α : Type} {H : Hd} {l z : List (List α)} {lo hi : Int} (h : ct l lo hi = some z) : ct (zp H l) lo hi = some (zp (H.drop lo.toNat) z) := by
  have key1 : ∀ (n : Nat) (H : Hd) (l : List (List α)), (zp H l).drop n = zp (H.drop n) (l.drop n) := fun n => by
    induction n with
    | zero => intro H l; rfl
    | succ n ih =>
      intro H l
      cases l with
      | nil => simp [zp_nil]
      | cons y ys =>
        cases H with
        | nil =>
          have := ih [] ys
          simpa [zp] using this
        | cons g gs => simpa [zp] using ih gs ys
  have key2 : ∀ (n : Nat) (H : Hd) (l : List (List α)), (zp H l).take n = zp H (l.take n) := fun n => by
    induction n with
    | zero => intro H l; simp [zp_nil]
    | succ n ih =>
      intro H l
      cases l with
      | nil => simp [zp_nil]
      | cons y ys =>
        cases H with
        | nil =>
          have := ih [] ys
          simpa [zp] using this
        | cons g gs => simpa [zp] using ih gs ys
  unfold ct at h ⊢
  split at h
  · rename_i hc
    obtain rfl := Option.some.inj h
    rw [zp_len, if_pos hc]
    simp only [key1, key2]
  · cases h
theorem C_cutG {α : Type} {d : Kd α} {e n c : Nat} {A : Option Addr} {H : Hd} {l z : List (List α)} {lo hi : Int} {w : World} (hz : ct l lo hi = some z) (hc : n ≤ c) (hC : (gk e d).C w A n (zp H l)) : (gk e d).C w (cutA A c lo.toNat 1) z.length (zp (H.drop lo.toNat) z) := by
  have h := C_cut (dk := gk e d) (sz := 1) rfl (ct_zp (H := H) hz) hc hC
  rwa [zp_len] at h
theorem stab_cutG {α : Type} {d : Kd α} {e n c : Nat} {A : Option Addr} {H : Hd} {l z : List (List α)} {lo hi : Int} {w : World} {S : Nat → Prop} (hz : ct l lo hi = some z) (hc : n ≤ c) (hS : Stable w S (fun W => (gk e d).C W A n (zp H l))) : Stable w S (fun W => (gk e d).C W (cutA A c lo.toNat 1) z.length (zp (H.drop lo.toNat) z)) := fun W hW => C_cutG hz hc (hS W hW)
theorem x_nilX {α : Type} {N : Md} {w0 ws : World} {P0 : Nat → Prop} {L : List (Thing w0.heap.size)} {Q : Post} {e : Nat → Value} {z : Exit} (H0 : Hd) (dx : Kd (Mg α)) (u : Nat) (k : X N w0 ws P0 z Q e (row dx u (.slice none 0 0) (bo H0 ([] : List (List α)) [] []) :: L)) : X N w0 ws P0 z Q e L := fun w hF => k w (by
  have he : bo H0 ([] : List (List α)) [] [] = [] := by simp [bo, zp_nil]
  rw [he]
  exact hF.row_nil dx u)
/-! the first round of a loop by itself -/
section
variable {P : Program} {N : Md} {w0 ws : World} {P0 : Nat → Prop} {L : List (Thing w0.heap.size)} {Q : Post} {e : Nat → Value} {c : Code}
theorem natEx (k : Nat) : k = 0 ∨ ∃ m, k = m + 1 := by
  cases k with
  | zero => exact .inl rfl
  | succ m => exact .inr ⟨m, rfl⟩
theorem at_ {p : Nat → Prop} {k m : Nat} (h : p k) (e : k = m) : p m := e ▸ h
theorem c_loopP {σ : Type} (J : Nat → σ → Prop) (W : List Nat) (up : σ → List (Nat × Value)) (LH : σ → List (Thing w0.heap.size)) (k0 : Nat)
    (first : C P N w0 ws P0 c (Exit.then (fun a w => ∃ k' s' U', k' < k0 ∧ J k' s' ∧ a = act N (updL (mixW W U' e) (up s')) ∧ Fr w0 ws P0 (LH s') w) Q) e L)
    (round : ∀ k s U, J k s → C P N w0 ws P0 c (Exit.then (fun a w => ∃ k' s' U', k' < k ∧ J k' s' ∧ a = act N (updL (mixW W U' e) (up s')) ∧ Fr w0 ws P0 (LH s') w) Q) (updL (mixW W U e) (up s)) (LH s)) : C P N w0 ws P0 (.loop c) Q e L := fun w hw => by
  refine wpIn_loop_ghost (fun n a w => (n = k0 ∧ a = act N e ∧ Fr w0 ws P0 L w) ∨ ∃ s U, J n s ∧ a = act N (updL (mixW W U e) (up s)) ∧ Fr w0 ws P0 (LH s) w) k0 (.inl ⟨rfl, rfl, hw⟩) ?_
  intro n a w h
  have key : ∀ {x a w}, (Exit.then (fun a w => ∃ k' s' U', k' < n ∧ J k' s' ∧ a = act N (updL (mixW W U' e) (up s')) ∧ Fr w0 ws P0 (LH s') w) Q) x a w → (Exit.then (fun a' w' => ∃ n', n' < n ∧ ((n' = k0 ∧ a' = act N e ∧ Fr w0 ws P0 L w') ∨ ∃ s U, J n' s ∧ a' = act N (updL (mixW W U e) (up s)) ∧ Fr w0 ws P0 (LH s) w')) Q) x a w := by
    intro x a w hq
    cases x with
    | normal =>
      obtain ⟨k', s', U', hk, hJ', ha, hF'⟩ := hq
      exact ⟨k', hk, .inr ⟨s', U', hJ', ha, hF'⟩⟩
    | _ => exact hq
  rcases h with ⟨rfl, rfl, hF⟩ | ⟨s, U, hJ, rfl, hF⟩
  · exact wpIn_mono (first w hF) (fun x a w hq => key hq)
  · exact wpIn_mono (round n s U hJ w hF) (fun x a w hq => key hq)
end
end Go.Proofs.Ytobaolbilllfgaa.Frame
