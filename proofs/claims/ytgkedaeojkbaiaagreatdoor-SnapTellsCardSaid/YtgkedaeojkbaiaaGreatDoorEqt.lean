/- More of the program's functions are as they were printed. -/
import Derived.Test.YtgkedaeojkbaiaaGreatDoorEqs
namespace Go.Proofs.YtgkedaeojkbaiaaGreatDoor
open Go Go.Idl Go.Idl.Sb
set_option maxRecDepth 1000000
set_option maxHeartbeats 0
theorem F49 : F0 49 = some jij := by kernel_rfl
theorem F50 : F0 50 = some je6 := by kernel_rfl
theorem F51 : F0 51 = some jf8 := by kernel_rfl
theorem F52 : F0 52 = some je7 := by kernel_rfl
theorem F53 : F0 53 = some je8 := by kernel_rfl
theorem F54 : F0 54 = some jf9 := by kernel_rfl
theorem F55 : F0 55 = some jga := by kernel_rfl
theorem F61 : F0 61 = some K3 := by kernel_rfl
theorem F62 : F0 62 = some Qx := by kernel_rfl
theorem F63 : F0 63 = some Zf := by kernel_rfl
theorem F64 : F0 64 = some X7 := by kernel_rfl
theorem F65 : F0 65 = some Q5 := by kernel_rfl
theorem F66 : F0 66 = some Qb := by kernel_rfl
theorem F67 : F0 67 = some X8 := by kernel_rfl
theorem F71 : F0 71 = some jdK := by kernel_rfl
theorem F73 : F0 73 = some jdL := by kernel_rfl
theorem F76 : F0 76 = some Zg := by kernel_rfl
theorem F99 : F0 99 = some jhs := by kernel_rfl
theorem jkw : F0 100 = some Z8 := by kernel_rfl
theorem jkx : F0 101 = some Z9 := by kernel_rfl
theorem jky : F0 102 = some jaa := by kernel_rfl
theorem jkz : F0 103 = some QZ := by kernel_rfl
theorem jkA : F0 104 = some XW := by kernel_rfl
theorem jkB : F0 105 = some XX := by kernel_rfl
theorem jkC : F0 106 = some yU := by kernel_rfl
theorem jkD : F0 107 = some yf := by kernel_rfl
theorem jjR : F0 111 = some Jp := by kernel_rfl
theorem jjS : F0 112 = some XY := by kernel_rfl
theorem jjT : F0 113 = some VT := by kernel_rfl
theorem jjU : F0 114 = some XZ := by kernel_rfl
theorem jjV : F0 115 = some X0 := by kernel_rfl
theorem jjW : F0 116 = some vK := by kernel_rfl
theorem jjX : F0 117 = some Q0 := by kernel_rfl
theorem jjY : F0 118 = some Kk := by kernel_rfl
theorem jjZ : F0 119 = some Kl := by kernel_rfl
theorem jj0 : F0 120 = some Km := by kernel_rfl
theorem jj1 : F0 121 = some VU := by kernel_rfl
theorem jj2 : F0 122 = some Jq := by kernel_rfl
theorem jj3 : F0 124 = some K9 := by kernel_rfl
theorem F10 : F0 10 = some jj7 := by kernel_rfl
theorem F23 : F0 23 = some jj8 := by kernel_rfl
theorem F24 : F0 24 = some jj9 := by kernel_rfl
theorem F25 : F0 25 = some jka := by kernel_rfl
theorem F26 : F0 26 = some jkb := by kernel_rfl
theorem F27 : F0 27 = some jkc := by kernel_rfl
theorem F28 : F0 28 = some jkd := by kernel_rfl
theorem F56 : F0 56 = some jke := by kernel_rfl
theorem F57 : F0 57 = some jkf := by kernel_rfl
theorem F58 : F0 58 = some jkg := by kernel_rfl
theorem F59 : F0 59 = some jkh := by kernel_rfl
theorem F60 : F0 60 = some jki := by kernel_rfl
theorem F74 : F0 74 = some jkj := by kernel_rfl
theorem F75 : F0 75 = some jkk := by kernel_rfl
theorem F79 : F0 79 = some jkl := by kernel_rfl
/-- What the examples call. -/
abbrev bf (f k : Nat) (x : IFunc) (r : Option IFunc) : Option IFunc := bif Nat.beq f k then some x else r
def F1 : jn := fun f => bf f 10 jj7 <| bf f 19 jdH <| bf f 23 jj8 <| bf f 24 jj9 <| bf f 25 jka <| bf f 26 jkb <| bf f 27 jkc <| bf f 28 jkd <| bf f 21 je2 <| bf f 11 jf5 <| bf f 12 jcZ <| bf f 41 je3 <| bf f 42 jc1 <| bf f 56 jke <| bf f 57 jkf <| bf f 58 jkg <| bf f 59 jkh <| bf f 60 jki <| bf f 52 je7 <| bf f 53 je8 <| bf f 29 jbt <| bf f 30 jbu <| bf f 31 Qa <| bf f 32 Q4 <| bf f 33 X5 <| bf f 34 XF <| bf f 36 jaG <| bf f 37 jaH <| bf f 61 K3 <| bf f 62 Qx <| bf f 63 Zf <| bf f 74 jkj <| bf f 75 jkk <| bf f 71 jdK <| bf f 73 jdL <| bf f 79 jkl <| bf f 111 Jp <| bf f 112 XY <| bf f 113 VT <| bf f 114 XZ <| bf f 115 X0 <| bf f 116 vK <| bf f 117 Q0 <| bf f 118 Kk <| bf f 119 Kl <| bf f 120 Km <| bf f 121 VU <| bf f 122 Jq <| bf f 124 K9 <| none
theorem ji {f k : Nat} {x fn : IFunc} {r : Option IFunc} (hk : F0 k = some x) (h : bf f k x r = some fn) (hr : r = some fn -> F0 f = some fn) : F0 f = some fn := by
 unfold bf at h
 cases hb : Nat.beq f k with
 | true =>
   have e := Nat.eq_of_beq_eq_true hb
   rw [hb] at h
   rw [e, hk]; exact h
 | false => rw [hb] at h; exact hr h
theorem jjs {f : FuncId} {fn : IFunc} (h : F1 f = some fn) : F0 f = some fn :=
 ji F10 h fun h => ji F19 h fun h => ji F23 h fun h => ji F24 h fun h => ji F25 h fun h => ji F26 h fun h => ji F27 h fun h => ji F28 h fun h => ji F21 h fun h => ji F11 h fun h => ji F12 h fun h => ji F41 h fun h => ji F42 h fun h => ji F56 h fun h => ji F57 h fun h => ji F58 h fun h => ji F59 h fun h => ji F60 h fun h => ji F52 h fun h => ji F53 h fun h => ji F29 h fun h => ji F30 h fun h => ji F31 h fun h => ji F32 h fun h => ji F33 h fun h => ji F34 h fun h => ji F36 h fun h => ji F37 h fun h => ji F61 h fun h => ji F62 h fun h => ji F63 h fun h => ji F74 h fun h => ji F75 h fun h => ji F71 h fun h => ji F73 h fun h => ji F79 h fun h => ji jjR h fun h => ji jjS h fun h => ji jjT h fun h => ji jjU h fun h => ji jjV h fun h => ji jjW h fun h => ji jjX h fun h => ji jjY h fun h => ji jjZ h fun h => ji jj0 h fun h => ji jj1 h fun h => ji jj2 h fun h => ji jj3 h fun h => by cases h
end Go.Proofs.YtgkedaeojkbaiaaGreatDoor
