/- The engine: rows of rows, their inner heads told by a ghost list. -/
import Derived.Test.YtiaohjciddbpoaaKFnMethodsOpa
import Derived.Laws.StructEq
import Derived.Laws.Shifts
set_option linter.unusedVariables false
set_option linter.unusedSimpArgs false
namespace Go.Proofs.Ytiaohjciddbpoaa.Frame
open Go.RowKit Go.Proofs.YtiaohjciddbpoaaW.PrintWords Go.Proofs.YtiaohjciddbpoaaW.PrintLast
abbrev Hd := List (Option Addr × Nat)
/-- Rows with their heads. -/
def gk {α : Type} (e : Nat) (d : Kd α) : Kd (Option Addr × Nat × List α) where
 sz := 1
 E := e :: d.E
 K := fun w g cs => cs = [.slice g.1 g.2.2.length g.2.1] ∧ g.2.2.length ≤ g.2.1 ∧ d.C w g.1 g.2.2.length g.2.2
 M := fun w base ok g cs => cs = [.slice g.1 g.2.2.length g.2.1] ∧ d.R e w base ok (.slice g.1 g.2.2.length g.2.1) g.2.2
 K_len := by
  rintro w x cs ⟨rfl, _⟩
  rfl
 K_one := by
  rintro w x cs ⟨rfl, _⟩ u hu
  rw [List.mem_singleton.1 hu]
  rfl
 K_below := by
  rintro w w1 x cs hb ⟨rfl, hl, hr⟩
  exact ⟨rfl, hl, Kd.C_below hr hb⟩
 K_of_M := by
  rintro w base ok x cs ⟨rfl, h⟩
  exact ⟨rfl, (Kd.R_reads' h).2.1, (Kd.R_reads' h).2.2⟩
 M_mono := by
  rintro w base ok ok' x cs hok ⟨rfl, h⟩
  exact ⟨rfl, Kd.R_mono h hok⟩
 M_bound := by
  rintro w base ok x cs ⟨rfl, h⟩
  exact ⟨rfl, Kd.R_bound h⟩
 M_move := by
  rintro w w1 base ok x cs hm ⟨rfl, h⟩
  exact ⟨rfl, Kd.R_move h hm⟩
 M_lower := by
  rintro w base base' ok x cs hb ⟨rfl, h⟩
  exact ⟨rfl, Kd.R_lower h hb⟩
section
variable {α : Type}
def zp : Hd → List (List α) → List (Option Addr × Nat × List α)
 | _, [] => []
 | [], y :: ys => (none, 0, y) :: zp [] ys
 | h :: hs, y :: ys => (h.1, h.2, y) :: zp hs ys
def hA (H : Hd) (i : Int) : Option Addr := (H.getD i.toNat (none, 0)).1
def hC (H : Hd) (i : Int) : Nat := (H.getD i.toNat (none, 0)).2
theorem zp_len : ∀ (H : Hd) (l : List (List α)), (zp H l).length = l.length
 | _, [] => by cases ‹Hd› <;> rfl
 | [], y :: ys => by simp [zp, zp_len [] ys]
 | h :: hs, y :: ys => by simp [zp, zp_len hs ys]
theorem zp_get : ∀ (H : Hd) (l : List (List α)) (i : Nat) (y : List α), l[i]? = some y → (zp H l)[i]? = some ((H.getD i (none, 0)).1, (H.getD i (none, 0)).2, y)
 | _, [], i, y, h => by simp at h
 | [], x :: xs, 0, y, h => by simpa [zp] using h
 | [], x :: xs, i + 1, y, h => by
  have := zp_get [] xs i y (by simpa using h)
  simpa [zp] using this
 | g :: gs, x :: xs, 0, y, h => by simpa [zp] using h
 | g :: gs, x :: xs, i + 1, y, h => by
  have := zp_get gs xs i y (by simpa using h)
  simpa [zp] using this
theorem gt_zp {H : Hd} {l : List (List α)} {i : Int} {y : List α} (h : gt l i = some y) : gt (zp H l) i = some (hA H i, hC H i, y) := by
 obtain ⟨h0, h1, h2⟩ := gt_in h
 unfold gt
 rw [if_pos h0]
 exact zp_get H l _ y h2
theorem zp_map : ∀ gs : List (Option Addr × Nat × List α), zp (gs.map fun g => (g.1, g.2.1)) (gs.map fun g => g.2.2) = gs
 | [] => rfl
 | g :: gs => by simp [zp, zp_map gs]
theorem map_zp : ∀ (H : Hd) (l : List (List α)), ((zp H l).map fun g => g.2.2) = l
 | _, [] => by cases ‹Hd› <;> rfl
 | [], y :: ys => by simp [zp, map_zp [] ys]
 | h :: hs, y :: ys => by simp [zp, map_zp hs ys]
theorem zp_ex (gs : List (Option Addr × Nat × List α)) (l : List (List α)) (h : (gs.map fun g => g.2.2) = l) : ∃ H, gs = zp H l := ⟨gs.map fun g => (g.1, g.2.1), by rw [← h, zp_map]⟩
/-! an inner row, read -/
section
variable {d : Kd α} {e n : Nat} {A : Option Addr} {H : Hd} {l : List (List α)} {i : Int} {y : List α} {w : World}
theorem K_in (h : (gk e d).C w A n (zp H l)) (hg : gt l i = some y) : y.length ≤ hC H i ∧ d.C w (hA H i) y.length y := by
 obtain ⟨h0, h1, h2⟩ := gt_in (gt_zp (H := H) hg)
 obtain ⟨ad, hA', hh⟩ := h.2.2 (by have := h.1; omega)
 obtain ⟨c, _, hk, _⟩ := hh _ _ h2
 exact ⟨hk.2.1, hk.2.2⟩
theorem C_in (h : (gk e d).C w A n (zp H l)) (hg : gt l i = some y) : d.C w (hA H i) y.length y := (K_in h hg).2
theorem stab_in {S : Nat → Prop} (h : Stable w S (fun W => (gk e d).C W A n (zp H l))) (hg : gt l i = some y) : Stable w S (fun W => d.C W (hA H i) y.length y) := fun W hW => C_in (h W hW) hg
end
end
section
variable {P : Program} {N : Md} {w0 ws : World} {P0 : Nat → Prop} {e : Nat → Value} {L : List (Thing w0.heap.size)} {d : Tmp} {ty : TypeId} {pos : String} {af : Array Edge} {g : Option (Nat × Bool)} {x y : Operand} {v : Value} {t u ue : TypeId} {α : Type} {dk : Kd α}
theorem e_map {σ σ' : Type} {o : Oper} {e' : σ → Nat → Value} {L' : σ → List (Thing w0.heap.size)} {e2 : σ' → Nat → Value} {L2 : σ' → List (Thing w0.heap.size)} (h : Ev1 P N w0 ws P0 o e L e' L') (hs : ∀ s, ∃ s', e' s = e2 s' ∧ L' s = L2 s') : Ev1 P N w0 ws P0 o e L e2 L2 := fun w hF K Q k =>
 h w hF K Q (fun s w' hF' => by
  obtain ⟨s', h1, h2⟩ := hs s
  rw [h1]
  rw [h2] at hF'
  exact k s' w' hF')
theorem ap_zp {xs ys zs : List (List α)} {H H2 : Hd} (h : ap xs ys = some zs) : ap (zp H xs) (zp H2 ys) = some (zp H xs ++ zp H2 ys) ∧ zs.length = (zp H xs ++ zp H2 ys).length ∧ ∃ H', zp H xs ++ zp H2 ys = zp H' zs := by
 unfold ap at h ⊢
 split at h
 ·rename_i hc
  obtain rfl := Option.some.inj h
  refine ⟨by rw [if_pos (by rw [zp_len, zp_len]; exact hc)], by rw [List.length_append, List.length_append, zp_len, zp_len], zp_ex _ _ (by rw [List.map_append, map_zp, map_zp])⟩
 ·cases h
theorem e_appG {i j n c m cm : Nat} {A B : Option Addr} {xs ys zs : List (List α)} {H H2 : Hd} {z : Value} {bytes : Nat} (ht : P.underlying t = some (.slice u)) (hinfo : (P.info? u).map (fun i => (i.zero, i.size, i.bytes)) = some (some z, 1, bytes)) (hz : z.cells.size = 1) (hb : 0 < bytes ∧ bytes ≤ 100000) (hij : Nat.beq i j = false) (hi : L[i]? = some (row (gk ue dk) u (.slice A n c) (zp H xs))) (hj : L[j]? = some (row (gk ue dk) u (.slice B m cm) (zp H2 ys))) (hx : ev N e x = .slice A n c) (hy : ev N e y = .slice B m cm) (hg : ap xs ys = some zs) :
  Ev1 P N w0 ws P0 ⟨some d, .call ⟨.builtin .append, #[x, y], #[t, t]⟩, ty, pos, af, g⟩ e L (fun s : Option Addr × Nat × Hd => upd e d (.slice s.1 zs.length s.2.1)) (fun s => (L.set j gone).set i (row (gk ue dk) u (.slice s.1 zs.length s.2.1) (zp s.2.2 zs))) := by
 obtain ⟨h1, h2, H', h3⟩ := ap_zp (H := H) (H2 := H2) hg
 refine e_map (e_app (dk := gk ue dk) ht hinfo hz (Nat.lt_succ_self 0) hb hij hi hj hx hy h1) (fun s => ⟨(s.1, s.2, H'), ?_, ?_⟩)
 ·rw [h2]
 ·show _ = (L.set j gone).set i (row (gk ue dk) u (.slice s.1 zs.length s.2) (zp H' zs))
  rw [h2, h3]
/-- A literal of one row of one's own. -/
theorem e_litG {j n c : Nat} {A : Option Addr} {ys : List α} {z : Value} {bytes : Nat} (ht : P.underlying t = some (.slice u)) (hinfo : (P.info? u).map (fun i => (i.zero, i.size, i.bytes)) = some (some z, 1, bytes)) (hz : z.cells.size = 1) (hj : L[j]? = some (row dk ue (.slice A n c) ys)) (hx : ev N e x = .slice A n c) :
  Ev1 P N w0 ws P0 ⟨some d, .buildSlice t 1 #[(0, x)], ty, pos, af, g⟩ e L (fun s : Option Addr × Nat × Hd => upd e d (.slice s.1 [ys].length s.2.1)) (fun s => row (gk ue dk) u (.slice s.1 [ys].length s.2.1) (zp s.2.2 [ys]) :: L.set j gone) := fun w hF K Q k => by
 obtain ⟨ie, hie, hzz⟩ := Option.map_eq_some_iff.1 hinfo
 simp only [Prod.mk.injEq] at hzz
 obtain ⟨hz0, hs, _⟩ := hzz
 obtain ⟨ok, okp, hR, hR2, hok, hfresh, hX⟩ := (hF.row_nil (gk ue dk) u).row_append2 (i := 0) (j := j + 1) (by omega) rfl (by simpa using hj)
 have hn := (Kd.R_reads' hR2).1
 have hcs : z.cells = #[z.cells[0]'(by omega)] := by
  apply Array.ext
  ·simp [hz]
  ·intro i h1 h2
   have : i = 0 := by simp at h2; omega
   subst this
   rfl
 have hfill : Instr.fill (fun i => some (i * 1, 1)) ((List.range (1 * 1)).map (z.cells[· % z.cells.size]!)).toArray [(0, Value.slice A n c)] = some #[Value.slice A n c] := by
  rw [show (List.range (1 * 1)).map (z.cells[· % z.cells.size]!) = [z.cells[0 % z.cells.size]!] from rfl]
  rfl
 have hrg : ((Array.range (1 * 1)).map (z.cells[· % z.cells.size]!)) = (((List.range (1 * 1)).map (z.cells[· % z.cells.size]!)).toArray) := by rw [← List.toArray_range, List.map_toArray]
 have hrun := run_buildSlice (P := P) w t u 1 #[(0, Value.slice A n c)] #[Value.slice A n c] ie z ht hie hz0 (by rw [hs]; omega) (by rw [hs]; omega) (by rw [hs, hrg]; exact hfill)
 have hRn : (gk ue dk).R u (w.alloc (.cells #[.slice A n c] u)) w0.heap.size ok (.slice (some ⟨w.heap.size, 0, none⟩) 1 1) [(A, c, ys)] := by
  refine ⟨fun k hk => ?_, [.slice A n c], ?_, rfl, fun j' p hj' => ?_⟩
  ·have : w.heap.size = k := by simpa [Value.ownBlock] using hk
   exact hfresh k (by omega)
  ·have h2 := World.ownsRow_lit (base := w0.heap.size) (e := u) (size := 1) w #[.slice A n c] 1 hF.size (by simp [maxLen]) (by simp)
   show (w.alloc _).ownsRow w0.heap.size u 1 _ 1 _
   simpa using h2
  ·cases j' with
   | zero =>
    obtain rfl : (A, c, ys) = p := by simpa using hj'
    refine ⟨by rw [← hn]; rfl, ?_⟩
    show dk.R ue _ w0.heap.size _ (.slice A ys.length c) ys
    rw [← hn]
    have h3 := Kd.R_bound hR2
    refine Kd.R_mono (Kd.R_move h3 (fun k hk => ?_)) (fun k hk => ⟨(hok k hk.1).1, fun he => ?_⟩)
    ·have := hk.2.2.1
     simp only [World.alloc]
     rw [Array.getElem?_push_lt (by omega), Array.getElem?_eq_getElem (by omega)]
    ·have hkl := hk.2.2.1
     have : k = w.heap.size := by simpa [Value.ownBlock] using he
     omega
   | succ j' => simp at hj'
 have hlast := hX _ _ _ hRn (World.grownBy_alloc w _ none)
 have hset : ((((row (gk ue dk) u (.slice none 0 0) []) :: L).set (j + 1) gone).set 0 (row (gk ue dk) u (.slice (some ⟨w.heap.size, 0, none⟩) 1 1) [(A, c, ys)])) = (row (gk ue dk) u (.slice (some ⟨w.heap.size, 0, none⟩) 1 1) (zp [(A, c)] [ys])) :: L.set j gone := rfl
 rw [hset] at hlast
 refine val_ev (w1 := w.alloc (.cells #[.slice A n c] u)) (v := .slice (some ⟨w.heap.size, 0, none⟩) 1 1) ?_ (k (some ⟨w.heap.size, 0, none⟩, 1, [(A, c)]) _ hlast)
 have hp2 : (#[(0, x)] : Array (Nat × Operand)).map (fun (i, x) => (i, ev N e x)) = #[(0, Value.slice A n c)] := by simp [hx]
 simp only [execOp, hp2, Sem.run_bind, hrun]
 rfl
/-- A row that was picked out of rows, or nil. -/
def Pk (H : Hd) (xs : List (List α)) (A : Option Addr) (c : Nat) (l : List α) : Prop := (l = [] ∧ A = none ∧ c = 0) ∨ ∃ k, gt xs k = some l ∧ A = hA H k ∧ c = hC H k
theorem Pk.nil {H : Hd} {xs : List (List α)} : Pk H xs none 0 [] := .inl ⟨rfl, rfl, rfl⟩
end
/-! full slices: what is appended goes elsewhere -/
section
variable {P : Program} {N : Md} {S : World → Prop} {e : Nat → Value} {dst : Option Tmp} {ty : TypeId} {pos : String} {af : Array Edge} {g : Option (Nat × Bool)} {x y : Operand} {t : TypeId}
/-- How long a cut row is. -/
def tl (k n : Nat) : Nat := min k n
/-- May a row be cut there? -/
def ctk {α : Type} (xs : List α) (h : Int) : Option Unit := if 0 ≤ h ∧ h ≤ (xs.length : Int) then some () else none
end
section
variable {P : Program} {N : Md} {w0 ws : World} {P0 : Nat → Prop} {L : List (Thing w0.heap.size)} {e : Nat → Value} {x y : Operand} {d : Tmp} {t ty : TypeId} {pos : String} {af : Array Edge} {g : Option (Nat × Bool)} {u : Nat}
end
/-! nil, shifts -/
section
variable {P : Program} {N : Md} {S : World → Prop} {e : Nat → Value} {dst : Option Tmp} {ty : TypeId} {pos : String} {af : Array Edge} {g : Option (Nat × Bool)} {x y : Operand} {t t' u : TypeId} {k yk : IntKind} {n m : Int}
theorem run_eq_nil (w : World) (A : Option Addr) (l c : Nat) (h : P.underlying t = some (.slice u)) : (Op.equal t (.slice A l c) (.slice none 0 0)).run P w = .ok A.isNone w := by
 show (Op.equalIn (9999 + 1) t (.slice A l c) (.slice none 0 0)).run P w = _
 rw [Op.equalIn]
 rw [Sem.run_bind, run_underlying h w]
 cases A <;> simp
theorem q_snil {A : Option Addr} {l c : Nat} (h : P.underlying t = some (.slice u)) (hx : ev N e x = .slice A l c) (hy : ev N e y = .slice none 0 0) : Qt P N e S ⟨dst, .binOp .eql t x y t', ty, pos, af, g⟩ (.bool A.isNone) := fun w _ => by
 simp [execOp, hx, hy, eqGuard, binOp, Sem.run_bind, run_eq_nil w A l c h]
theorem nil_of {α : Type} {dk : Kd α} {w : World} {A : Option Addr} {n : Nat} {xs : List α} (hb : A.isNone = true) (h : dk.C w A n xs) : xs = [] := by
 cases xs with
 | nil => rfl
 | cons a l =>
  obtain ⟨ad, hA, _⟩ := h.2.2 (by have := h.1; simp at this; omega)
  rw [hA] at hb
  cases hb
theorem q_conv {src dt : TypeId} (hs : (P.underlying src).isSome = true) (hd : P.underlying dt = some (.int yk)) (hx : ev N e x = .int k n) : Qt P N e S ⟨dst, .convert src dt x, ty, pos, af, g⟩ (.int yk (yk.wrap n)) := fun w _ => by
 obtain ⟨d, hs⟩ := Option.isSome_iff_exists.1 hs
 simp [execOp, hx, convert, run_underlying hs w, run_underlying hd w, Conv.intToInt]
def nn (m : Int) : Option Unit := if 0 ≤ m then some () else none
theorem nn_le {m : Int} {u : Unit} (h : nn m = some u) : 0 ≤ m := by
 unfold nn at h
 split at h
 ·assumption
 ·cases h
theorem q_shl (hx : ev N e x = .int k n) (hy : ev N e y = .int yk m) (h : 0 ≤ m) : Qt P N e S ⟨dst, .binOp .shl t x y t', ty, pos, af, g⟩ (.int k (k.wrap (n * 2 ^ min m.toNat k.bits))) := fun w _ => by
 simp only [execOp, hx, hy, eqGuard, binOp, shift_shl_any _ _ _ _ h]
 rfl
theorem q_and (hx : ev N e x = .int k n) (hy : ev N e y = .int k m) : Qt P N e S ⟨dst, .binOp .and t x y t', ty, pos, af, g⟩ (.int k (Go.bits .and k n m)) := fun w _ => by
 simp [execOp, hx, hy, eqGuard, binOp, intBits_and, pure, bind, Sem.bind]
theorem q_shr (hx : ev N e x = .int k n) (hy : ev N e y = .int yk m) (h : 0 ≤ m) : Qt P N e S ⟨dst, .binOp .shr t x y t', ty, pos, af, g⟩ (.int k (n / 2 ^ min m.toNat k.bits)) := fun w _ => by
 simp only [execOp, hx, hy, eqGuard, binOp, shift_shr_any _ _ _ _ h]
 rfl
end
/-! structs of whole numbers compared -/
section
variable {P : Program} {N : Md} {S : World → Prop} {e : Nat → Value} {dst : Option Tmp} {ty : TypeId} {pos : String} {af : Array Edge} {g : Option (Nat × Bool)} {x y : Operand} {t t' : TypeId}
def fldsEq (P : Program) : List Field → Array Value → Array Value → Option Bool
 | [], _, _ => some true
 | f :: fs, xs, ys => match P.underlying f.type, xs[f.offset]?, ys[f.offset]? with
  | some (.int _), some (.int k a), some (.int k' b) => bif f.name == "_" then none else if k = k' then match fldsEq P fs xs ys with | some r => some ((a == b) && r) | none => none else none
  | _, _, _ => none
end
end Go.Proofs.Ytiaohjciddbpoaa.Frame
