/-
  The reference's rings and rank lists, where they are right.
-/
import Derived.Test.YtijeefncmgjlpaaT8
import Derived.Test.YtijeefncmgjlpaaTG
set_option linter.unusedSimpArgs false
set_option linter.unusedVariables false

set_option maxHeartbeats 4000000
set_option maxRecDepth 100000
namespace Go.Proofs.Try.Dn
open Go.Dn

/-! rows of truth values in memory -/
def Idx (n : Nat) (l : List Int) : Prop := l.Nodup /\ ∀ x ∈ l, 0 <= x /\ x < (n : Int)

theorem ixIn {pg : Pg} {l : List Int} {i : Nat} {x : Int} (hx : l[i]? = some x) (H : Heap) : ∃ p, dkc pg (den pg) (.ixS 1 false) [elI.lt true l, .i .i64 (i : Int)] H = some (p, H) /\ dkc pg (den pg) (.ld 1 false) [p] H = some (.i .i64 x, H) :=
 ixI (pg := pg) (R := den pg) (ltV elI true H l) hx

def ed (ls : List (List Int)) (x y : Int) : Bool := bt (ls.getD x.toNat []) (ls.getD y.toNat [])

def RingL (ls : List (List Int)) (l : List Int) : Prop := 3 <= l.length /\ Idx ls.length l /\ ∀ (i : Nat) (x y : Int), l[i]? = some x -> l[(i + 1) % l.length]? = some y -> ed ls x y = true
def RankL (ls : List (List Int)) (l : List Int) : Prop := l.length = ls.length /\ Idx ls.length l /\ ∀ (i k : Nat) (x y : Int), k < i -> l[i]? = some x -> l[k]? = some y -> ed ls x y = false

end Go.Proofs.Try.Dn

/-
 Which leads to which (plain): a ring leads back, a rank list does not.
-/

set_option maxHeartbeats 1000000
namespace Go.Proofs.Try.Dn
open Go.Dn

def wU (n k i j : Nat) (G : Nat -> Bool) : Nat -> Bool := fun u => if u = i * n + j then G (i * n + j) || (G (i * n + k) && G (k * n + j)) else G u
def wJ (n k i : Nat) : Nat -> Nat -> (Nat -> Bool) -> (Nat -> Bool)
 | 0, _, G => G
 | r + 1, j, G => wJ n k i r (j + 1) (wU n k i j G)
def wI (n k : Nat) : Nat -> Nat -> (Nat -> Bool) -> (Nat -> Bool)
 | 0, _, G => G
 | r + 1, i, G => wI n k r (i + 1) (wJ n k i n 0 G)
def wK (n : Nat) : Nat -> Nat -> (Nat -> Bool) -> (Nat -> Bool)
 | 0, _, G => G
 | r + 1, k, G => wK n r (k + 1) (wI n k n 0 G)

/-! more and more leads -/
theorem wU_mono {n k i j : Nat} {G : Nat -> Bool} {u : Nat} (h : G u = true) : wU n k i j G u = true := by
 unfold wU
 split
 ·rename_i e; subst e; rw [h]; rfl
 ·exact h
theorem wJ_mono {n k i : Nat} : ∀ (r j : Nat) {G : Nat -> Bool} {u : Nat}, G u = true -> wJ n k i r j G u = true
 | 0, _, _, _, h => h
 | r + 1, j, G, u, h => wJ_mono r (j + 1) (wU_mono h)
theorem wI_mono {n k : Nat} : ∀ (r i : Nat) {G : Nat -> Bool} {u : Nat}, G u = true -> wI n k r i G u = true
 | 0, _, _, _, h => h
 | r + 1, i, G, u, h => wI_mono r (i + 1) (wJ_mono n 0 h)
theorem wJ_all {n k i : Nat} : ∀ (r j : Nat) {G : Nat -> Bool}, ∀ c, j <= c -> c < j + r -> G (i * n + k) = true -> G (k * n + c) = true -> wJ n k i r j G (i * n + c) = true
 | 0, j, _, c, h1, h2, _, _ => by omega
 | r + 1, j, G, c, h1, h2, h3, h4 => by
  by_cases hc : c = j
  ·subst hc
   refine wJ_mono r (c + 1) ?_
   unfold wU
   rw [if_pos rfl, h3, h4]; simp
  ·exact wJ_all r (j + 1) c (by omega) (by omega) (wU_mono h3) (wU_mono h4)
theorem wI_all {n k : Nat} : ∀ (r i : Nat) {G : Nat -> Bool}, ∀ a c, i <= a -> a < i + r -> c < n -> G (a * n + k) = true -> G (k * n + c) = true -> wI n k r i G (a * n + c) = true
 | 0, i, _, a, _, h1, h2, _, _, _ => by omega
 | r + 1, i, G, a, c, h1, h2, hc, h3, h4 => by
  by_cases ha : a = i
  ·subst ha
   exact wI_mono r (a + 1) (wJ_all n 0 c (by omega) (by omega) h3 h4)
  ·exact wI_all r (i + 1) a c (by omega) (by omega) hc (wJ_mono n 0 h3) (wJ_mono n 0 h4)

def Pth (E : Nat -> Nat -> Bool) : Nat -> List Nat -> Nat -> Prop
 | i, [], j => E i j = true
 | i, v :: vs, j => E i v = true /\ Pth E v vs j

theorem Pth.split {E : Nat -> Nat -> Bool} : ∀ {vs ws : List Nat} {i v j : Nat}, Pth E i (vs ++ v :: ws) j -> Pth E i vs v /\ Pth E v ws j
 | [], ws, i, v, j, h => h
 | x :: vs, ws, i, v, j, h => ⟨⟨h.1, (Pth.split h.2).1⟩, (Pth.split h.2).2⟩

def Ways (n : Nat) (E : Nat -> Nat -> Bool) (k : Nat) (G : Nat -> Bool) : Prop := ∀ vs i j, i < n -> j < n -> (∀ v ∈ vs, v < k) -> vs.Nodup -> Pth E i vs j -> G (i * n + j) = true

theorem Ways.step {n k : Nat} {E : Nat -> Nat -> Bool} {G : Nat -> Bool} (h : Ways n E k G) (hk : k < n) : Ways n E (k + 1) (wI n k n 0 G) := by
 intro vs i j hi hj hv hn hp
 by_cases hm : k ∈ vs
 ·obtain ⟨a, b, rfl⟩ := List.append_of_mem hm
  obtain ⟨p1, p2⟩ := hp.split
  rw [List.nodup_append] at hn
  obtain ⟨n1, n2, n3⟩ := hn
  have hk2 := List.nodup_cons.1 n2
  refine wI_all n 0 i j (by omega) (by omega) hj (h a i k hi hk (fun v hv' => ?_) n1 p1) (h b k j hk hj (fun v hv' => ?_) hk2.2 p2)
  ·have h1 := hv v (by simp [hv'])
   have h2 : v ≠ k := n3 v hv' k (List.mem_cons_self ..)
   omega
  ·have h1 := hv v (by simp [hv'])
   have h2 : v ≠ k := fun e => hk2.1 (e ▸ hv')
   omega
 ·refine wI_mono n 0 (h vs i j hi hj (fun v hv' => ?_) hn hp)
  have h1 := hv v hv'
  have h2 : v ≠ k := fun e => hm (e ▸ hv')
  omega

theorem Ways.all {n : Nat} {E : Nat -> Nat -> Bool} : ∀ (r k : Nat) {G : Nat -> Bool}, k + r = n -> Ways n E k G -> Ways n E n (wK n r k G)
 | 0, k, G, hk, h => by
  obtain rfl : k = n := by omega
  exact h
 | r + 1, k, G, hk, h => Ways.all r (k + 1) (by omega) (h.step (by omega))

def G0 (ls : List (List Int)) : Nat -> Bool := fun u => ed ls ((u / ls.length : Nat) : Int) ((u % ls.length : Nat) : Int)
theorem sub_lenN : ∀ {l m : List Nat}, l.Nodup -> (∀ x ∈ l, x ∈ m) -> l.length <= m.length
 | [], m, _, _ => Nat.zero_le _
 | x :: l, m, hn, hs => by
  have hn2 := List.nodup_cons.1 hn
  have hx := hs x (List.mem_cons_self ..)
  have ih := sub_lenN (l := l) (m := m.erase x) hn2.2 fun y hy => by
   have hne : y ≠ x := fun e => hn2.1 (e ▸ hy)
   exact (List.mem_erase_of_ne hne).2 (hs y (List.mem_cons_of_mem _ hy))
  have hl := List.length_erase_of_mem hx
  have hp : 0 < m.length := List.length_pos_of_mem hx
  rw [List.length_cons]
  omega

end Go.Proofs.Try.Dn

